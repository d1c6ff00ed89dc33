/- Texts that the law leans on. -/
import Derived.Test.YtdigebokbhmfaaaGreatDoorX22
import Derived.Test.YtdigebokbhmfaaaGreatDoorX26
import Derived.Test.YtdigebokbhmfaaaGreatDoorX24
set_option linter.unusedVariables false
set_option linter.unusedSimpArgs false
namespace Go.Bs
open Rt
def rTo (n most : Int) : Bool := bif decide (0 ≤ n) then decide (n ≤ most) else false
def rIn (s : B) (c : Int) : Bool := s.any fun x => decide ((x.toNat : Int) = c)
def rUses (k : Int) : B := if k = 0 then [107, 116] else if k = 1 ∨ k = 2 then [99] else if k = 3 then [99, 119, 110, 109] else if k = 4 ∨ k = 9 ∨ k = 12 then [110, 114] else if k = 5 then [119, 115] else if k = 6 then [119, 109, 115] else if k = 7 then [99, 119, 109, 114, 115] else if k = 8 then [99, 110, 109, 114] else if k = 10 then [99, 110, 109, 116] else if k = 11 then [114, 116] else if k = 13 then [114] else if k = 14 then [99, 116] else if k = 15 then [119, 110] else if k = 16 then [99, 109] else if k = 17 then [99, 107] else if k = 18 ∨ k = 19 ∨ k = 20 then [110, 109, 114] else []
theorem ite_len {c : Prop} [Decidable c] {a b : B} (ha : a.length ≤ 8) (hb : b.length ≤ 8) : (if c then a else b).length ≤ 8 := by
 by_cases h : c
 ·rw [if_pos h]; exact ha
 ·rw [if_neg h]; exact hb
theorem rUses_len (k : Int) : (rUses k).length ≤ 8 := by
 unfold rUses
 repeat refine ite_len (by decide) ?_
 decide
theorem rIn_true {s : B} {c : Int} {k : Nat} (h : k < s.length) (e : ((s.getD k 0).toNat : Int) = c) : rIn s c = true := by
 refine List.any_eq_true.2 ⟨s.getD k 0, ?_, by simpa using e⟩
 rw [List.getD_eq_getElem?_getD, List.getElem?_eq_getElem h]; exact List.getElem_mem h
theorem rIn_false {s : B} {c : Int} (h : ∀ j, j < s.length → ((s.getD j 0).toNat : Int) ≠ c) : rIn s c = false := by
 unfold rIn
 rw [List.any_eq_false]
 intro x hx
 obtain ⟨j, hj, rfl⟩ := List.getElem_of_mem hx
 have := h j hj
 rw [List.getD_eq_getElem?_getD, List.getElem?_eq_getElem hj] at this
 simpa using this
theorem all_false {n k : Nat} {p : Nat → Bool} (hk : k < n) (h : p k = false) : (List.range n).all p = false := by
 rw [List.all_eq_false]; exact ⟨k, List.mem_range.2 hk, by simp [h]⟩
theorem all_true {n : Nat} {p : Nat → Bool} (h : ∀ j, j < n → p j = true) : (List.range n).all p = true := by
 rw [List.all_eq_true]; intro k hk; exact h k (List.mem_range.1 hk)
def rAscAt (l : List Int) (most : Int) (k : Nat) : Bool := !(bif !rTo (l.getD k 0) most then true else (bif decide ((0 : Int) < k) then decide (l.getD k 0 ≤ l.getD (k - 1) 0) else false))
def rAsc (l : List Int) (most : Int) : Bool := (List.range l.length).all (rAscAt l most)
def rValid (s : Span) : Bool := bif (bif (bif rTo s.m 1073741824 then decide (0 ≤ s.f) else false) then decide (s.f < s.t) else false) then decide (s.t ≤ 1048576) else false
def rNorAt (x y : Span) (k : Nat) : Bool := bif (bif !rValid x then true else (bif decide ((0 : Int) < k) then decide (x.m < y.m) else false)) then true else (bif (bif decide ((0 : Int) < k) then decide (y.m = x.m) else false) then decide (x.f ≤ y.t) else false)
def rNormal (l : List Span) : Bool := (List.range l.length).all fun k => !rNorAt (l.getD k ⟨0, 0, 0⟩) (l.getD (k - 1) ⟨0, 0, 0⟩) k
def rSpA (e : En) : Bool := bif (bif (bif (bif !rIn (rUses e.kind) 99 then !decide (e.circle = 0) else false) then true else (bif !rIn (rUses e.kind) 119 then !decide (e.who = 0) else false)) then true else (bif !rIn (rUses e.kind) 110 then !decide (e.n = 0) else false)) then true else (bif !rIn (rUses e.kind) 109 then !decide (e.m = 0) else false)
def rSpB (e : En) : Bool := bif (bif (bif (bif !rIn (rUses e.kind) 114 then !decide (e.ref = -1) else false) then true else (bif !rIn (rUses e.kind) 107 then decide ((0 : Int) < e.keys.length) else false)) then true else (bif !rIn (rUses e.kind) 115 then decide ((0 : Int) < e.spans.length) else false)) then true else (bif !rIn (rUses e.kind) 116 then !decide (e.text = []) else false)
def rSpare (e : En) : Bool := bif rSpA e then false else bif rSpB e then false else true
def rRef (e : En) : Bool := bif decide (e.ref = -1) then (bif (bif (bif (bif !rIn (rUses e.kind) 114 then true else decide (e.kind = 7)) then true else decide (e.kind = 8)) then true else decide (e.kind = 18)) then true else decide (e.kind = 19)) else rTo e.ref 1073741824
def rM (e : En) : Bool := bif decide (e.kind = 16) then (bif rTo e.m 1073741824 then !decide (e.m = e.circle) else false) else rTo e.m 1048576
def rN (e : En) : Bool := if e.kind = 3 ∨ e.kind = 4 then bif decide (1 ≤ e.n) then decide (e.n ≤ 1048576) else false else if e.kind = 8 then bif (bif decide (e.n = -1) then !decide (e.ref = -1) else false) then true else (bif decide (e.ref = -1) then rTo e.n 1099511627776 else false) else if e.kind = 9 then rTo e.n 1099511627776 else if e.kind = 10 then bif decide (1 ≤ e.n) then decide (e.n ≤ 1099511627776) else false else if e.kind = 12 then rTo e.n 1 else if e.kind = 15 then bif rTo e.n 199 then !decide (e.n = e.who) else false else rTo e.n 1048576
def rRA (e : En) : Bool := bif (bif (bif (bif !rTo e.author 199 then true else !rTo e.seq 1048575) then true else !rTo e.day 1048576) then true else !rTo e.kind 20) then true else !rSpare e
def rRB (e : En) : Bool := bif (bif (bif (bif decide ((40 : Int) < e.knows.length) then true else !rAsc e.knows 1073741824) then true else !rTo e.circle 1073741824) then true else !rTo e.who 199) then true else decide ((2000 : Int) < e.text.length)
def rRC (e : En) : Bool := bif rIn (rUses e.kind) 107 then (bif (bif decide ((e.keys.length : Int) < 1) then true else decide ((60 : Int) < e.keys.length)) then true else !rAsc e.keys 199) else false
def rRD (e : En) : Bool := bif rIn (rUses e.kind) 115 then (bif (bif decide ((e.spans.length : Int) < 1) then true else decide ((40 : Int) < e.spans.length)) then true else !rNormal e.spans) else false
def rRight (e : En) : Bool := bif rRA e then false else bif rRB e then false else bif rRC e then false else bif rRD e then false else (bif (bif rRef e then rN e else false) then rM e else false)
end Go.Bs
namespace Go.Proofs.YtdigebokbhmfaaaGreatDoor
open Go.Vc Rt Go.Bs
set_option maxHeartbeats 2000000
theorem rto_c (n m : Int) (w : World) : Ans Tryz.prog 146 [vI n, vI m] (.b (rTo n m)) w := by
 refine calls_plainB [.i n, .i m] Tryz.func146 rfl rfl (Nat.le_of_ble_eq_true rfl) rfl fun B hB => ?_
 repeat refine zq ?_
 refine zr ?_; conv => whnf
 repeat refine zq ?_
 refine zr ?_; conv => whnf
 repeat refine zq ?_
 refine At.ret (At.doneB tab_ok hB _ rfl fun w' hw => ⟨rfl, hw.fr⟩)
theorem rin_c (s : List UInt8) (c : Int) (hl : s.length ≤ 1000000) (w : World) : Ans Tryz.prog 150 [sv s, .int .u8 c] (.b (rIn s c)) w := by
 refine calls_plainB [rS s, .x (.int .u8 c)] Tryz.func150 rfl rfl (Nat.le_of_ble_eq_true rfl) rfl fun B hB => ?_
 repeat refine zq ?_
 refine zr ?_; conv => whnf
 repeat refine zq ?_
 refine zr ?_; conv => whnf
 repeat refine zq ?_
 refine At.block ?_
 refine At.loopF (fun k : Nat => { N := Tryz.f150.ntmps, sl := [(0, some (rS s)), (1, some (.x (.int .u8 c))), (5, some (.i k))], gl := [], hp := [], S := [], ws := w }) (fun k => k ≤ s.length ∧ ∀ j, j < k → ((s.getD j 0).toNat : Int) ≠ c) (fun k => s.length - k)
  (fun w' hw => ⟨0, ⟨Nat.zero_le _, fun j hj => by omega⟩, Le.of rfl rfl ⟨rfl, rfl, rfl, trivial⟩, WF.plain rfl, hw.same rfl rfl rfl⟩) ?_
 intro k ⟨hk, hall⟩
 repeat refine zq ?_
 refine zr ?_; conv => whnf
 repeat refine zq ?_
 refine At.cond rfl (fun hc => At.skip ?_) (fun hc => At.exit ?_)
 ·have hlt : k < s.length := by simpa using hc
  repeat refine zq ?_
  refine At.block ?_
  repeat refine zq ?_
  refine zr ?_; conv => whnf
  refine ⟨by omega, ?_⟩; conv => whnf
  refine ⟨by omega, ?_⟩; conv => whnf
  repeat refine zq ?_
  refine At.cond rfl (fun hq => ?_) (fun hq => At.skip ?_)
  ·have hq := of_decide_eq_true hq
   repeat refine zq ?_
   refine zr ?_; conv => whnf
   repeat refine zq ?_
   refine At.ret (At.doneB tab_ok hB _ rfl fun w' hw => ⟨?_, hw.fr⟩)
   rw [rIn_true hlt (by simpa [byteI] using hq)]
  ·have hq := of_decide_eq_false hq
   repeat refine zq ?_
   refine zr ?_; conv => whnf
   refine ⟨⟨by omega, by omega⟩, ?_⟩; conv => whnf
   refine At.next fun w' hw => ⟨k + 1, ⟨by omega, fun j hj => ?_⟩, by omega, Le.of rfl rfl ⟨rfl, rfl, rfl, trivial⟩, WF.plain rfl, hw.keep [] rfl rfl rfl⟩
   rcases Nat.lt_or_ge j k with hj' | hj'
   ·exact hall j hj'
   ·obtain rfl : j = k := by omega
    simpa [byteI] using hq
 ·have hge : k = s.length := by simp at hc; omega
  subst hge
  repeat refine zq ?_
  refine zr ?_; conv => whnf
  repeat refine zq ?_
  refine At.ret (At.doneB tab_ok hB _ rfl fun w' hw => ⟨?_, hw.fr⟩)
  rw [rIn_false hall]
theorem ruses_c (k : Int) (w : World) : Ans Tryz.prog 149 [vI k] (rS (rUses k)) w := by
 refine calls_plainB [.i k] Tryz.func149 rfl rfl (Nat.le_of_ble_eq_true rfl) rfl fun B hB => ?_
 repeat refine zq ?_
 refine zr ?_; conv => whnf
 repeat refine zq ?_
 refine zr ?_; conv => whnf
 repeat refine zq ?_
 refine At.block ?_
 repeat refine zq ?_
 refine zr ?_; conv => whnf
 repeat refine zq ?_
 refine At.cond rfl (fun hq => ?_) (fun hq => ?_)
 ·have h0 : k = 0 := of_decide_eq_true hq
  repeat refine zq ?_
  refine zr ?_; conv => whnf
  repeat refine zq ?_
  refine At.ret (At.doneB tab_ok hB _ rfl fun w' hw => ⟨?_, hw.fr⟩)
  simp only [rUses, if_pos h0, RV.den, SV.den, CV.den, ofConst]
 ·have h0 : ¬ (k = 0) := of_decide_eq_false hq
  repeat refine zq ?_
  refine zr ?_; conv => whnf
  repeat refine zq ?_
  refine At.cond rfl (fun hq => At.skip ?_) (fun hq => ?_)
  ·have h1 : k = 1 ∨ k = 2 := .inl (of_decide_eq_true hq)
   repeat refine zq ?_
   refine At.cond rfl (fun _ => ?_) (fun hq2 => absurd (of_decide_eq_true hq) (of_decide_eq_false hq2))
   repeat refine zq ?_
   refine zr ?_; conv => whnf
   repeat refine zq ?_
   refine At.ret (At.doneB tab_ok hB _ rfl fun w' hw => ⟨?_, hw.fr⟩)
   simp only [rUses, if_neg h0, if_pos h1, RV.den, SV.den, CV.den, ofConst]
  ·have n1 : ¬ k = 1 := of_decide_eq_false hq
   repeat refine zq ?_
   refine zr ?_; conv => whnf
   repeat refine zq ?_
   refine At.cond rfl (fun hq => ?_) (fun hq => ?_)
   ·have h1 : k = 1 ∨ k = 2 := .inr (of_decide_eq_true hq)
    repeat refine zq ?_
    refine zr ?_; conv => whnf
    repeat refine zq ?_
    refine At.ret (At.doneB tab_ok hB _ rfl fun w' hw => ⟨?_, hw.fr⟩)
    simp only [rUses, if_neg h0, if_pos h1, RV.den, SV.den, CV.den, ofConst]
   ·have h1 : ¬ (k = 1 ∨ k = 2) := (fun h => h.elim n1 (of_decide_eq_false hq))
    repeat refine zq ?_
    refine zr ?_; conv => whnf
    repeat refine zq ?_
    refine At.cond rfl (fun hq => ?_) (fun hq => ?_)
    ·have h3 : k = 3 := of_decide_eq_true hq
     repeat refine zq ?_
     refine zr ?_; conv => whnf
     repeat refine zq ?_
     refine At.ret (At.doneB tab_ok hB _ rfl fun w' hw => ⟨?_, hw.fr⟩)
     simp only [rUses, if_neg h0, if_neg h1, if_pos h3, RV.den, SV.den, CV.den, ofConst]
    ·have h3 : ¬ (k = 3) := of_decide_eq_false hq
     repeat refine zq ?_
     refine zr ?_; conv => whnf
     repeat refine zq ?_
     refine At.cond rfl (fun hq => At.skip ?_) (fun hq => ?_)
     ·have h4 : k = 4 ∨ k = 9 ∨ k = 12 := .inl (of_decide_eq_true hq)
      repeat refine zq ?_
      refine At.cond rfl (fun _ => ?_) (fun hq2 => absurd (of_decide_eq_true hq) (of_decide_eq_false hq2))
      repeat refine zq ?_
      refine zr ?_; conv => whnf
      repeat refine zq ?_
      refine At.ret (At.doneB tab_ok hB _ rfl fun w' hw => ⟨?_, hw.fr⟩)
      simp only [rUses, if_neg h0, if_neg h1, if_neg h3, if_pos h4, RV.den, SV.den, CV.den, ofConst]
     ·have n4 : ¬ k = 4 := of_decide_eq_false hq
      repeat refine zq ?_
      refine zr ?_; conv => whnf
      repeat refine zq ?_
      refine At.cond rfl (fun hq => At.skip ?_) (fun hq => ?_)
      ·have h4 : k = 4 ∨ k = 9 ∨ k = 12 := .inr (.inl (of_decide_eq_true hq))
       repeat refine zq ?_
       refine At.cond rfl (fun _ => ?_) (fun hq2 => absurd (of_decide_eq_true hq) (of_decide_eq_false hq2))
       repeat refine zq ?_
       refine zr ?_; conv => whnf
       repeat refine zq ?_
       refine At.ret (At.doneB tab_ok hB _ rfl fun w' hw => ⟨?_, hw.fr⟩)
       simp only [rUses, if_neg h0, if_neg h1, if_neg h3, if_pos h4, RV.den, SV.den, CV.den, ofConst]
      ·have n9 : ¬ k = 9 := of_decide_eq_false hq
       repeat refine zq ?_
       refine zr ?_; conv => whnf
       repeat refine zq ?_
       refine At.cond rfl (fun hq => ?_) (fun hq => ?_)
       ·have h4 : k = 4 ∨ k = 9 ∨ k = 12 := .inr (.inr (of_decide_eq_true hq))
        repeat refine zq ?_
        refine zr ?_; conv => whnf
        repeat refine zq ?_
        refine At.ret (At.doneB tab_ok hB _ rfl fun w' hw => ⟨?_, hw.fr⟩)
        simp only [rUses, if_neg h0, if_neg h1, if_neg h3, if_pos h4, RV.den, SV.den, CV.den, ofConst]
       ·have h4 : ¬ (k = 4 ∨ k = 9 ∨ k = 12) := (fun h => h.elim n4 ((fun h => h.elim n9 (of_decide_eq_false hq))))
        repeat refine zq ?_
        refine zr ?_; conv => whnf
        repeat refine zq ?_
        refine At.cond rfl (fun hq => ?_) (fun hq => ?_)
        ·have h5 : k = 5 := of_decide_eq_true hq
         repeat refine zq ?_
         refine zr ?_; conv => whnf
         repeat refine zq ?_
         refine At.ret (At.doneB tab_ok hB _ rfl fun w' hw => ⟨?_, hw.fr⟩)
         simp only [rUses, if_neg h0, if_neg h1, if_neg h3, if_neg h4, if_pos h5, RV.den, SV.den, CV.den, ofConst]
        ·have h5 : ¬ (k = 5) := of_decide_eq_false hq
         repeat refine zq ?_
         refine zr ?_; conv => whnf
         repeat refine zq ?_
         refine At.cond rfl (fun hq => ?_) (fun hq => ?_)
         ·have h6 : k = 6 := of_decide_eq_true hq
          repeat refine zq ?_
          refine zr ?_; conv => whnf
          repeat refine zq ?_
          refine At.ret (At.doneB tab_ok hB _ rfl fun w' hw => ⟨?_, hw.fr⟩)
          simp only [rUses, if_neg h0, if_neg h1, if_neg h3, if_neg h4, if_neg h5, if_pos h6, RV.den, SV.den, CV.den, ofConst]
         ·have h6 : ¬ (k = 6) := of_decide_eq_false hq
          repeat refine zq ?_
          refine zr ?_; conv => whnf
          repeat refine zq ?_
          refine At.cond rfl (fun hq => ?_) (fun hq => ?_)
          ·have h7 : k = 7 := of_decide_eq_true hq
           repeat refine zq ?_
           refine zr ?_; conv => whnf
           repeat refine zq ?_
           refine At.ret (At.doneB tab_ok hB _ rfl fun w' hw => ⟨?_, hw.fr⟩)
           simp only [rUses, if_neg h0, if_neg h1, if_neg h3, if_neg h4, if_neg h5, if_neg h6, if_pos h7, RV.den, SV.den, CV.den, ofConst]
          ·have h7 : ¬ (k = 7) := of_decide_eq_false hq
           repeat refine zq ?_
           refine zr ?_; conv => whnf
           repeat refine zq ?_
           refine At.cond rfl (fun hq => ?_) (fun hq => ?_)
           ·have h8 : k = 8 := of_decide_eq_true hq
            repeat refine zq ?_
            refine zr ?_; conv => whnf
            repeat refine zq ?_
            refine At.ret (At.doneB tab_ok hB _ rfl fun w' hw => ⟨?_, hw.fr⟩)
            simp only [rUses, if_neg h0, if_neg h1, if_neg h3, if_neg h4, if_neg h5, if_neg h6, if_neg h7, if_pos h8, RV.den, SV.den, CV.den, ofConst]
           ·have h8 : ¬ (k = 8) := of_decide_eq_false hq
            repeat refine zq ?_
            refine zr ?_; conv => whnf
            repeat refine zq ?_
            refine At.cond rfl (fun hq => ?_) (fun hq => ?_)
            ·have h10 : k = 10 := of_decide_eq_true hq
             repeat refine zq ?_
             refine zr ?_; conv => whnf
             repeat refine zq ?_
             refine At.ret (At.doneB tab_ok hB _ rfl fun w' hw => ⟨?_, hw.fr⟩)
             simp only [rUses, if_neg h0, if_neg h1, if_neg h3, if_neg h4, if_neg h5, if_neg h6, if_neg h7, if_neg h8, if_pos h10, RV.den, SV.den, CV.den, ofConst]
            ·have h10 : ¬ (k = 10) := of_decide_eq_false hq
             repeat refine zq ?_
             refine zr ?_; conv => whnf
             repeat refine zq ?_
             refine At.cond rfl (fun hq => ?_) (fun hq => ?_)
             ·have h11 : k = 11 := of_decide_eq_true hq
              repeat refine zq ?_
              refine zr ?_; conv => whnf
              repeat refine zq ?_
              refine At.ret (At.doneB tab_ok hB _ rfl fun w' hw => ⟨?_, hw.fr⟩)
              simp only [rUses, if_neg h0, if_neg h1, if_neg h3, if_neg h4, if_neg h5, if_neg h6, if_neg h7, if_neg h8, if_neg h10, if_pos h11, RV.den, SV.den, CV.den, ofConst]
             ·have h11 : ¬ (k = 11) := of_decide_eq_false hq
              repeat refine zq ?_
              refine zr ?_; conv => whnf
              repeat refine zq ?_
              refine At.cond rfl (fun hq => ?_) (fun hq => ?_)
              ·have h13 : k = 13 := of_decide_eq_true hq
               repeat refine zq ?_
               refine zr ?_; conv => whnf
               repeat refine zq ?_
               refine At.ret (At.doneB tab_ok hB _ rfl fun w' hw => ⟨?_, hw.fr⟩)
               simp only [rUses, if_neg h0, if_neg h1, if_neg h3, if_neg h4, if_neg h5, if_neg h6, if_neg h7, if_neg h8, if_neg h10, if_neg h11, if_pos h13, RV.den, SV.den, CV.den, ofConst]
              ·have h13 : ¬ (k = 13) := of_decide_eq_false hq
               repeat refine zq ?_
               refine zr ?_; conv => whnf
               repeat refine zq ?_
               refine At.cond rfl (fun hq => ?_) (fun hq => ?_)
               ·have h14 : k = 14 := of_decide_eq_true hq
                repeat refine zq ?_
                refine zr ?_; conv => whnf
                repeat refine zq ?_
                refine At.ret (At.doneB tab_ok hB _ rfl fun w' hw => ⟨?_, hw.fr⟩)
                simp only [rUses, if_neg h0, if_neg h1, if_neg h3, if_neg h4, if_neg h5, if_neg h6, if_neg h7, if_neg h8, if_neg h10, if_neg h11, if_neg h13, if_pos h14, RV.den, SV.den, CV.den, ofConst]
               ·have h14 : ¬ (k = 14) := of_decide_eq_false hq
                repeat refine zq ?_
                refine zr ?_; conv => whnf
                repeat refine zq ?_
                refine At.cond rfl (fun hq => ?_) (fun hq => ?_)
                ·have h15 : k = 15 := of_decide_eq_true hq
                 repeat refine zq ?_
                 refine zr ?_; conv => whnf
                 repeat refine zq ?_
                 refine At.ret (At.doneB tab_ok hB _ rfl fun w' hw => ⟨?_, hw.fr⟩)
                 simp only [rUses, if_neg h0, if_neg h1, if_neg h3, if_neg h4, if_neg h5, if_neg h6, if_neg h7, if_neg h8, if_neg h10, if_neg h11, if_neg h13, if_neg h14, if_pos h15, RV.den, SV.den, CV.den, ofConst]
                ·have h15 : ¬ (k = 15) := of_decide_eq_false hq
                 repeat refine zq ?_
                 refine zr ?_; conv => whnf
                 repeat refine zq ?_
                 refine At.cond rfl (fun hq => ?_) (fun hq => ?_)
                 ·have h16 : k = 16 := of_decide_eq_true hq
                  repeat refine zq ?_
                  refine zr ?_; conv => whnf
                  repeat refine zq ?_
                  refine At.ret (At.doneB tab_ok hB _ rfl fun w' hw => ⟨?_, hw.fr⟩)
                  simp only [rUses, if_neg h0, if_neg h1, if_neg h3, if_neg h4, if_neg h5, if_neg h6, if_neg h7, if_neg h8, if_neg h10, if_neg h11, if_neg h13, if_neg h14, if_neg h15, if_pos h16, RV.den, SV.den, CV.den, ofConst]
                 ·have h16 : ¬ (k = 16) := of_decide_eq_false hq
                  repeat refine zq ?_
                  refine zr ?_; conv => whnf
                  repeat refine zq ?_
                  refine At.cond rfl (fun hq => ?_) (fun hq => ?_)
                  ·have h17 : k = 17 := of_decide_eq_true hq
                   repeat refine zq ?_
                   refine zr ?_; conv => whnf
                   repeat refine zq ?_
                   refine At.ret (At.doneB tab_ok hB _ rfl fun w' hw => ⟨?_, hw.fr⟩)
                   simp only [rUses, if_neg h0, if_neg h1, if_neg h3, if_neg h4, if_neg h5, if_neg h6, if_neg h7, if_neg h8, if_neg h10, if_neg h11, if_neg h13, if_neg h14, if_neg h15, if_neg h16, if_pos h17, RV.den, SV.den, CV.den, ofConst]
                  ·have h17 : ¬ (k = 17) := of_decide_eq_false hq
                   repeat refine zq ?_
                   refine zr ?_; conv => whnf
                   repeat refine zq ?_
                   refine At.cond rfl (fun hq => At.skip ?_) (fun hq => ?_)
                   ·have h18 : k = 18 ∨ k = 19 ∨ k = 20 := .inl (of_decide_eq_true hq)
                    repeat refine zq ?_
                    refine At.cond rfl (fun _ => ?_) (fun hq2 => absurd (of_decide_eq_true hq) (of_decide_eq_false hq2))
                    repeat refine zq ?_
                    refine zr ?_; conv => whnf
                    repeat refine zq ?_
                    refine At.ret (At.doneB tab_ok hB _ rfl fun w' hw => ⟨?_, hw.fr⟩)
                    simp only [rUses, if_neg h0, if_neg h1, if_neg h3, if_neg h4, if_neg h5, if_neg h6, if_neg h7, if_neg h8, if_neg h10, if_neg h11, if_neg h13, if_neg h14, if_neg h15, if_neg h16, if_neg h17, if_pos h18, RV.den, SV.den, CV.den, ofConst]
                   ·have n18 : ¬ k = 18 := of_decide_eq_false hq
                    repeat refine zq ?_
                    refine zr ?_; conv => whnf
                    repeat refine zq ?_
                    refine At.cond rfl (fun hq => At.skip ?_) (fun hq => ?_)
                    ·have h18 : k = 18 ∨ k = 19 ∨ k = 20 := .inr (.inl (of_decide_eq_true hq))
                     repeat refine zq ?_
                     refine At.cond rfl (fun _ => ?_) (fun hq2 => absurd (of_decide_eq_true hq) (of_decide_eq_false hq2))
                     repeat refine zq ?_
                     refine zr ?_; conv => whnf
                     repeat refine zq ?_
                     refine At.ret (At.doneB tab_ok hB _ rfl fun w' hw => ⟨?_, hw.fr⟩)
                     simp only [rUses, if_neg h0, if_neg h1, if_neg h3, if_neg h4, if_neg h5, if_neg h6, if_neg h7, if_neg h8, if_neg h10, if_neg h11, if_neg h13, if_neg h14, if_neg h15, if_neg h16, if_neg h17, if_pos h18, RV.den, SV.den, CV.den, ofConst]
                    ·have n19 : ¬ k = 19 := of_decide_eq_false hq
                     repeat refine zq ?_
                     refine zr ?_; conv => whnf
                     repeat refine zq ?_
                     refine At.cond rfl (fun hq => ?_) (fun hq => ?_)
                     ·have h18 : k = 18 ∨ k = 19 ∨ k = 20 := .inr (.inr (of_decide_eq_true hq))
                      repeat refine zq ?_
                      refine zr ?_; conv => whnf
                      repeat refine zq ?_
                      refine At.ret (At.doneB tab_ok hB _ rfl fun w' hw => ⟨?_, hw.fr⟩)
                      simp only [rUses, if_neg h0, if_neg h1, if_neg h3, if_neg h4, if_neg h5, if_neg h6, if_neg h7, if_neg h8, if_neg h10, if_neg h11, if_neg h13, if_neg h14, if_neg h15, if_neg h16, if_neg h17, if_pos h18, RV.den, SV.den, CV.den, ofConst]
                     ·have h18 : ¬ (k = 18 ∨ k = 19 ∨ k = 20) := (fun h => h.elim n18 ((fun h => h.elim n19 (of_decide_eq_false hq))))
                      refine At.skip ?_
                      repeat refine zq ?_
                      refine zr ?_; conv => whnf
                      repeat refine zq ?_
                      refine At.ret (At.doneB tab_ok hB _ rfl fun w' hw => ⟨?_, hw.fr⟩)
                      simp only [rUses, if_neg h0, if_neg h1, if_neg h3, if_neg h4, if_neg h5, if_neg h6, if_neg h7, if_neg h8, if_neg h10, if_neg h11, if_neg h13, if_neg h14, if_neg h15, if_neg h16, if_neg h17, if_neg h18, RV.den, SV.den, CV.den, ofConst]
theorem rasc_c (xs : List Int) (most : Int) (S : List Nat) (v : Value) (w : World) (h : SlOf intT S w v xs) : Ans Tryz.prog 148 [v, vI most] (.b (rAsc xs most)) w := by
 replace h := h.avoid (S' := []) (fun b hb => by cases hb)
 have hsm := h.small
 have hln := h.len
 refine calls_plainB [.x v, .i most] Tryz.func148 rfl rfl (Nat.le_of_ble_eq_true rfl) rfl fun B hB => ?_
 repeat refine zq ?_
 refine zr ?_; conv => whnf
 repeat refine zq ?_
 refine zr ?_; conv => whnf
 repeat refine zq ?_
 refine At.block ?_
 refine At.loopF (fun k : Nat => { N := Tryz.f148.ntmps, sl := [(0, some (.x v)), (1, some (.i most)), (5, some (.i k))], gl := [], hp := [], S := [], ws := w }) (fun k => k ≤ xs.length ∧ ∀ j, j < k → rAscAt xs most j = true) (fun k => xs.length - k)
  (fun w' hw => ⟨0, ⟨Nat.zero_le _, fun j hj => by omega⟩, Le.of rfl rfl ⟨rfl, rfl, rfl, trivial⟩, WF.plain rfl, hw.same rfl rfl rfl⟩) ?_
 intro k ⟨hk, hall⟩
 repeat refine zq ?_
 refine zr ?_; conv => whnf
 refine ⟨h.sl, ?_⟩; conv => whnf
 repeat refine zq ?_
 refine At.cond rfl (fun hc => At.skip ?_) (fun hc => At.exit ?_)
 ·have hlt : k < xs.length := by have := of_decide_eq_true hc; omega
  have hx := getD_some (xs := xs) (i := k) hlt
  have hy : ∀ {q : Int}, q = k - 1 → 0 < (k : Int) → xs[q.toNat]? = some (xs.getD (k - 1) 0) := fun e h0 => by rw [← getD_some (by omega)]; congr 1; omega
  repeat refine zq ?_
  refine At.block ?_
  repeat refine zq ?_
  refine At.draw tab_ok mixed (by kernel_rfl) ?_; conv => whnf
  refine ⟨by omega, ?_⟩; conv => whnf
  refine ⟨by omega, ?_⟩; conv => whnf
  refine ⟨[.i (xs.getD k 0)], fun w' hw => h.load (n := 1) hw.fr hx rfl, ?_⟩; conv => whnf
  refine ⟨.b (rTo (xs.getD k 0) most), ans_quiet b146 (fun w' _ => rto_c _ _ w'), ?_⟩; conv => whnf
  refine ⟨by simp only [gimp]; intro h1; exact fun _ => by omega, ?_⟩; conv => whnf
  refine ⟨by simp only [gimp]; intro h1; exact fun _ => by omega, ?_⟩; conv => whnf
  refine ⟨[.i (xs.getD k 0)], by simp only [gimp]; intro h1 _ w' hw; exact h.load (n := 1) hw.fr hx rfl, ?_⟩; conv => whnf
  refine ⟨by simp only [gimp]; intro h1; have := of_decide_eq_true h1; exact fun _ => ⟨by omega, by omega⟩, ?_⟩; conv => whnf
  refine ⟨by simp only [gimp]; intro h1; have := of_decide_eq_true h1; exact fun _ => by omega, ?_⟩; conv => whnf
  refine ⟨by simp only [gimp]; intro h1; have := of_decide_eq_true h1; exact fun _ => by omega, ?_⟩; conv => whnf
  refine ⟨[.i (xs.getD (k - 1) 0)], by simp only [gimp]; intro h1 _ w' hw; have := of_decide_eq_true h1; exact h.loadI (n := 1) hw.fr (by omega) (hy rfl (by omega)) rfl, ?_⟩; conv => whnf
  repeat refine zq ?_
  refine At.cond rfl (fun hq => ?_) (fun hq => At.skip ?_)
  ·repeat refine zq ?_
   refine zr ?_; conv => whnf
   repeat refine zq ?_
   refine At.ret (At.doneB tab_ok hB _ rfl fun w' hw => ⟨?_, hw.fr⟩)
   have e : rAscAt xs most k = false := by unfold rAscAt; rw [hq]; rfl
   rw [show rAsc xs most = false from all_false hlt e]
  ·repeat refine zq ?_
   refine zr ?_; conv => whnf
   refine ⟨⟨by omega, by omega⟩, ?_⟩; conv => whnf
   refine At.next fun w' hw => ⟨k + 1, ⟨by omega, fun j hj => ?_⟩, by omega, Le.of rfl rfl ⟨rfl, rfl, rfl, trivial⟩, WF.plain rfl, hw.keep [] rfl rfl rfl⟩
   rcases Nat.lt_or_ge j k with hj' | hj'
   ·exact hall j hj'
   ·obtain rfl : j = k := by omega
    unfold rAscAt; rw [hq]; rfl
 ·have hge : k = xs.length := by have := of_decide_eq_false hc; omega
  subst hge
  repeat refine zq ?_
  refine zr ?_; conv => whnf
  repeat refine zq ?_
  refine At.ret (At.doneB tab_ok hB _ rfl fun w' hw => ⟨?_, hw.fr⟩)
  rw [show rAsc xs most = true from all_true hall]
theorem rvalid_c (s : Span) (w : World) : Ans Tryz.prog 201 [vS s] (.b (rValid s)) w := by
 refine calls_plainB [.s (.agg (encS s))] Tryz.func201 rfl rfl (Nat.le_of_ble_eq_true rfl) rfl fun B hB => ?_
 repeat refine zq ?_
 refine zr ?_; conv => whnf
 intro b; conv => whnf
 repeat refine zq ?_
 refine zr ?_; conv => whnf
 refine ans_call b146 rfl (fun w' _ => rto_c _ _ w') ?_; conv => whnf
 repeat refine zq ?_
 refine At.ret (At.doneB tab_ok hB _ rfl fun w' hw => ⟨rfl, hw.fr⟩)
theorem getD_span {xs : List Span} {i : Nat} (h : i < xs.length) : xs[i]? = some (xs.getD i ⟨0, 0, 0⟩) := by
 rw [List.getElem?_eq_getElem h, List.getD_eq_getElem?_getD, List.getElem?_eq_getElem h]; rfl
theorem rnormal_c (xs : List Span) (S : List Nat) (v : Value) (w : World) (h : SlOf spT S w v xs) : Ans Tryz.prog 151 [v] (.b (rNormal xs)) w := by
 replace h := h.avoid (S' := []) (fun b hb => by cases hb)
 have hsm := h.small
 have hln := h.len
 refine calls_plainB [.x v] Tryz.func151 rfl rfl (Nat.le_of_ble_eq_true rfl) rfl fun B hB => ?_
 repeat refine zq ?_
 refine zr ?_; conv => whnf
 repeat refine zq ?_
 refine zr ?_; conv => whnf
 repeat refine zq ?_
 refine At.block ?_
 refine At.loopF (fun k : Nat => { N := Tryz.f151.ntmps, sl := [(0, some (.x v)), (3, some (.i k))], gl := [], hp := [], S := [], ws := w }) (fun k => k ≤ xs.length ∧ ∀ j, j < k → (fun k => !rNorAt (xs.getD k ⟨0, 0, 0⟩) (xs.getD (k - 1) ⟨0, 0, 0⟩) k) j = true) (fun k => xs.length - k)
  (fun w' hw => ⟨0, ⟨Nat.zero_le _, fun j hj => by omega⟩, Le.of rfl rfl ⟨rfl, rfl, trivial⟩, WF.plain rfl, hw.same rfl rfl rfl⟩) ?_
 intro k ⟨hk, hall⟩
 repeat refine zq ?_
 refine zr ?_; conv => whnf
 refine ⟨h.sl, ?_⟩; conv => whnf
 repeat refine zq ?_
 refine At.cond rfl (fun hc => At.skip ?_) (fun hc => At.exit ?_)
 ·have hlt : k < xs.length := by have := of_decide_eq_true hc; omega
  have hx := getD_span (xs := xs) (i := k) hlt
  have hy : ∀ {q : Int}, q = k - 1 → 0 < (k : Int) → xs[q.toNat]? = some (xs.getD (k - 1) ⟨0, 0, 0⟩) := fun e h0 => by rw [← getD_span (by omega)]; congr 1; omega
  generalize hX : xs.getD k ⟨0, 0, 0⟩ = x at hx
  generalize hY : xs.getD (k - 1) ⟨0, 0, 0⟩ = y at hy
  have pos : ∀ {c : Bool}, (bif decide ((0 : Int) < k) then c else false) = true → (0 : Int) < k := fun {c} h1 => by
   rcases Nat.eq_zero_or_pos k with e | e
   ·subst e; simp at h1
   ·omega
  repeat refine zq ?_
  refine At.block ?_
  repeat refine zq ?_
  refine At.draw tab_ok mixed (by kernel_rfl) ?_; conv => whnf
  refine ⟨by omega, ?_⟩; conv => whnf
  refine ⟨by omega, ?_⟩; conv => whnf
  refine ⟨encS x, fun w' hw => h.load (n := 3) hw.fr hx rfl, ?_⟩; conv => whnf
  refine ⟨.b (rValid x), ans_quiet b201 (fun w' _ => rvalid_c x w'), ?_⟩; conv => whnf
  refine ⟨by simp only [gimp]; intro h1; have := of_decide_eq_true h1; exact fun _ => ⟨by omega, by omega⟩, ?_⟩; conv => whnf
  refine ⟨by simp only [gimp]; intro h1; have := of_decide_eq_true h1; exact fun _ => by omega, ?_⟩; conv => whnf
  refine ⟨by simp only [gimp]; intro h1; have := of_decide_eq_true h1; exact fun _ => by omega, ?_⟩; conv => whnf
  refine ⟨[.i y.m], by simp only [gimp]; intro h1 _ w' hw; have := of_decide_eq_true h1; exact h.loadI (n := 1) hw.fr (by omega) (hy rfl (by omega)) rfl, ?_⟩; conv => whnf
  refine ⟨by simp only [gimp]; intro h1; have := of_decide_eq_true h1; exact fun _ => by omega, ?_⟩; conv => whnf
  refine ⟨by simp only [gimp]; intro h1; have := of_decide_eq_true h1; exact fun _ => by omega, ?_⟩; conv => whnf
  refine ⟨[.i x.m], by simp only [gimp]; intro h1 _ w' hw; exact h.load (n := 1) hw.fr hx rfl, ?_⟩; conv => whnf
  refine ⟨by simp only [gimp]; intro h1; have := of_decide_eq_true h1; exact fun _ => ⟨by omega, by omega⟩, ?_⟩; conv => whnf
  refine ⟨by simp only [gimp]; intro h1; have := of_decide_eq_true h1; exact fun _ => by omega, ?_⟩; conv => whnf
  refine ⟨by simp only [gimp]; intro h1; have := of_decide_eq_true h1; exact fun _ => by omega, ?_⟩; conv => whnf
  refine ⟨[.i y.m], by simp only [gimp]; intro h1 _ w' hw; have := of_decide_eq_true h1; exact h.loadI (n := 1) hw.fr (by omega) (hy rfl (by omega)) rfl, ?_⟩; conv => whnf
  refine ⟨by simp only [gimp]; intro h1; have := of_decide_eq_true h1; exact fun _ => by omega, ?_⟩; conv => whnf
  refine ⟨by simp only [gimp]; intro h1; have := of_decide_eq_true h1; exact fun _ => by omega, ?_⟩; conv => whnf
  refine ⟨[.i x.m], by simp only [gimp]; intro h1 _ w' hw; exact h.load (n := 1) hw.fr hx rfl, ?_⟩; conv => whnf
  refine ⟨by simp only [gimp]; intro h1; have := pos h1; exact fun _ => ⟨by omega, by omega⟩, ?_⟩; conv => whnf
  refine ⟨by simp only [gimp]; intro h1; have := pos h1; exact fun _ => by omega, ?_⟩; conv => whnf
  refine ⟨by simp only [gimp]; intro h1; have := pos h1; exact fun _ => by omega, ?_⟩; conv => whnf
  refine ⟨[.i y.t], by simp only [gimp]; intro h1 _ w' hw; have := pos h1; exact h.loadI (n := 1) hw.fr (by omega) (hy rfl (by omega)) rfl, ?_⟩; conv => whnf
  refine ⟨by simp only [gimp]; intro h1; have := pos h1; exact fun _ => by omega, ?_⟩; conv => whnf
  refine ⟨by simp only [gimp]; intro h1; have := pos h1; exact fun _ => by omega, ?_⟩; conv => whnf
  refine ⟨[.i x.f], by simp only [gimp]; intro h1 _ w' hw; exact h.load (n := 1) hw.fr hx rfl, ?_⟩; conv => whnf
  repeat refine zq ?_
  refine At.cond rfl (fun hq => ?_) (fun hq => At.skip ?_)
  ·repeat refine zq ?_
   refine zr ?_; conv => whnf
   repeat refine zq ?_
   refine At.ret (At.doneB tab_ok hB _ rfl fun w' hw => ⟨?_, hw.fr⟩)
   have e : rNorAt x y k = true := hq
   rw [show rNormal xs = false from all_false hlt (by rw [hX, hY, e]; rfl)]
  ·repeat refine zq ?_
   refine zr ?_; conv => whnf
   refine ⟨⟨by omega, by omega⟩, ?_⟩; conv => whnf
   refine At.next fun w' hw => ⟨k + 1, ⟨by omega, fun j hj => ?_⟩, by omega, Le.of rfl rfl ⟨rfl, rfl, trivial⟩, WF.plain rfl, hw.keep [] rfl rfl rfl⟩
   rcases Nat.lt_or_ge j k with hj' | hj'
   ·exact hall j hj'
   ·obtain rfl : j = k := by omega
    have e : rNorAt x y j = false := hq
    simp only
    rw [hX, hY, e]; rfl
 ·have hge : k = xs.length := by have := of_decide_eq_false hc; omega
  subst hge
  repeat refine zq ?_
  refine zr ?_; conv => whnf
  repeat refine zq ?_
  refine At.ret (At.doneB tab_ok hB _ rfl fun w' hw => ⟨?_, hw.fr⟩)
  rw [show rNormal xs = true from all_true hall]
theorem rspare_c (e : En) (k y s : Value) (S : List Nat) (w : World) (h : EnIn S w e k y s) : Ans Tryz.prog 147 [vE e k y s] (.b (rSpare e)) w := by
 replace h := h.nilS
 have hyl := h.y.len
 have hsl := h.s.len
 have hu : (rUses e.kind).length ≤ 1000000 := Nat.le_trans (rUses_len _) (by decide)
 refine calls_plainB [.s (.agg (encE e k y s))] Tryz.func147 rfl rfl (Nat.le_of_ble_eq_true rfl) rfl fun B hB => ?_
 repeat refine zq ?_
 refine zr ?_; conv => whnf
 refine ⟨h.k.one, ?_⟩; conv => whnf
 refine ⟨h.y.one, ?_⟩; conv => whnf
 refine ⟨h.s.one, ?_⟩; conv => whnf
 intro b; conv => whnf
 repeat refine zq ?_
 refine zr ?_; conv => whnf
 refine ans_call b149 rfl (fun w' _ => ruses_c _ w') ?_; conv => whnf
 repeat refine zq ?_
 refine zr ?_; conv => whnf
 refine ans_call b150 rfl (fun w' _ => rin_c _ 99 hu w') ?_; conv => whnf
 refine ⟨.b (rIn (rUses e.kind) 119), gimp_of (ans_quiet b150 (fun w' _ => rin_c _ 119 hu w')), ?_⟩; conv => whnf
 refine ⟨.b (rIn (rUses e.kind) 110), gimp_of (ans_quiet b150 (fun w' _ => rin_c _ 110 hu w')), ?_⟩; conv => whnf
 refine ⟨.b (rIn (rUses e.kind) 109), gimp_of (ans_quiet b150 (fun w' _ => rin_c _ 109 hu w')), ?_⟩; conv => whnf
 repeat refine zq ?_
 refine At.cond rfl (fun hq => ?_) (fun hq => At.skip ?_)
 ·have hA : rSpA e = true := hq
  repeat refine zq ?_
  refine zr ?_; conv => whnf
  repeat refine zq ?_
  refine At.ret (At.doneB tab_ok hB _ rfl fun w' hw => ⟨?_, hw.fr⟩)
  rw [show rSpare e = false by unfold rSpare; rw [hA]; rfl]
 have hA : rSpA e = false := hq
 clear hq
 repeat refine zq ?_
 refine zr ?_; conv => whnf
 refine ans_call b150 rfl (fun w' _ => rin_c _ 114 hu w') ?_; conv => whnf
 refine ⟨.b (rIn (rUses e.kind) 107), gimp_of (ans_quiet b150 (fun w' _ => rin_c _ 107 hu w')), ?_⟩; conv => whnf
 refine ⟨by simp only [gimp]; intros; exact h.y.sl, ?_⟩; conv => whnf
 refine ⟨.b (rIn (rUses e.kind) 115), gimp_of (ans_quiet b150 (fun w' _ => rin_c _ 115 hu w')), ?_⟩; conv => whnf
 refine ⟨by simp only [gimp]; intros; exact h.s.sl, ?_⟩; conv => whnf
 refine ⟨.b (rIn (rUses e.kind) 116), gimp_of (ans_quiet b150 (fun w' _ => rin_c _ 116 hu w')), ?_⟩; conv => whnf
 repeat refine zq ?_
 refine At.cond rfl (fun hq => ?_) (fun hq => At.skip ?_)
 ·have hV : rSpB e = true := by rw [hyl, hsl] at hq; exact hq
  repeat refine zq ?_
  refine zr ?_; conv => whnf
  repeat refine zq ?_
  refine At.ret (At.doneB tab_ok hB _ rfl fun w' hw => ⟨?_, hw.fr⟩)
  rw [show rSpare e = false by unfold rSpare; rw [hA, hV]; rfl]
 have hV : rSpB e = false := by rw [hyl, hsl] at hq; exact hq
 clear hq
 repeat refine zq ?_
 refine zr ?_; conv => whnf
 repeat refine zq ?_
 refine At.ret (At.doneB tab_ok hB _ rfl fun w' hw => ⟨?_, hw.fr⟩)
 rw [show rSpare e = true by unfold rSpare; rw [hA, hV]; rfl]
theorem rref_c (e : En) (k y s : Value) (S : List Nat) (w : World) (h : EnIn S w e k y s) : Ans Tryz.prog 152 [vE e k y s] (.b (rRef e)) w := by
 replace h := h.nilS
 have hu : (rUses e.kind).length ≤ 1000000 := Nat.le_trans (rUses_len _) (by decide)
 refine calls_plainB [.s (.agg (encE e k y s))] Tryz.func152 rfl rfl (Nat.le_of_ble_eq_true rfl) rfl fun B hB => ?_
 repeat refine zq ?_
 refine zr ?_; conv => whnf
 refine ⟨h.k.one, ?_⟩; conv => whnf
 refine ⟨h.y.one, ?_⟩; conv => whnf
 refine ⟨h.s.one, ?_⟩; conv => whnf
 intro b; conv => whnf
 repeat refine zq ?_
 refine zr ?_; conv => whnf
 repeat refine zq ?_
 refine At.cond rfl (fun hq => ?_) (fun hq => At.skip ?_)
 ·repeat refine zq ?_
  refine zr ?_; conv => whnf
  refine ans_call b149 rfl (fun w' _ => ruses_c _ w') ?_; conv => whnf
  refine ans_call b150 rfl (fun w' _ => rin_c _ 114 hu w') ?_; conv => whnf
  repeat refine zq ?_
  refine At.ret (At.doneB tab_ok hB _ rfl fun w' hw => ⟨?_, hw.fr⟩)
  unfold rRef; rw [hq]; rfl
 ·repeat refine zq ?_
  refine zr ?_; conv => whnf
  refine ans_call b146 rfl (fun w' _ => rto_c _ _ w') ?_; conv => whnf
  repeat refine zq ?_
  refine At.ret (At.doneB tab_ok hB _ rfl fun w' hw => ⟨?_, hw.fr⟩)
  unfold rRef; rw [hq]; rfl
theorem rm_c (e : En) (k y s : Value) (S : List Nat) (w : World) (h : EnIn S w e k y s) : Ans Tryz.prog 154 [vE e k y s] (.b (rM e)) w := by
 replace h := h.nilS
 refine calls_plainB [.s (.agg (encE e k y s))] Tryz.func154 rfl rfl (Nat.le_of_ble_eq_true rfl) rfl fun B hB => ?_
 repeat refine zq ?_
 refine zr ?_; conv => whnf
 refine ⟨h.k.one, ?_⟩; conv => whnf
 refine ⟨h.y.one, ?_⟩; conv => whnf
 refine ⟨h.s.one, ?_⟩; conv => whnf
 intro b; conv => whnf
 repeat refine zq ?_
 refine zr ?_; conv => whnf
 repeat refine zq ?_
 refine At.cond rfl (fun hq => ?_) (fun hq => At.skip ?_)
 ·repeat refine zq ?_
  refine zr ?_; conv => whnf
  refine ans_call b146 rfl (fun w' _ => rto_c _ _ w') ?_; conv => whnf
  repeat refine zq ?_
  refine At.ret (At.doneB tab_ok hB _ rfl fun w' hw => ⟨?_, hw.fr⟩)
  unfold rM; rw [hq]; rfl
 ·repeat refine zq ?_
  refine zr ?_; conv => whnf
  refine ans_call b146 rfl (fun w' _ => rto_c _ _ w') ?_; conv => whnf
  repeat refine zq ?_
  refine At.ret (At.doneB tab_ok hB _ rfl fun w' hw => ⟨?_, hw.fr⟩)
  unfold rM; rw [hq]; rfl
theorem rn_c (e : En) (k y s : Value) (S : List Nat) (w : World) (h : EnIn S w e k y s) : Ans Tryz.prog 153 [vE e k y s] (.b (rN e)) w := by
 replace h := h.nilS
 refine calls_plainB [.s (.agg (encE e k y s))] Tryz.func153 rfl rfl (Nat.le_of_ble_eq_true rfl) rfl fun B hB => ?_
 repeat refine zq ?_
 refine zr ?_; conv => whnf
 refine ⟨h.k.one, ?_⟩; conv => whnf
 refine ⟨h.y.one, ?_⟩; conv => whnf
 refine ⟨h.s.one, ?_⟩; conv => whnf
 intro b; conv => whnf
 repeat refine zq ?_
 refine zr ?_; conv => whnf
 repeat refine zq ?_
 refine At.block ?_
 repeat refine zq ?_
 refine zr ?_; conv => whnf
 repeat refine zq ?_
 refine At.cond rfl (fun hq => At.skip ?_) (fun hq => ?_)
 ·have h3 : e.kind = 3 ∨ e.kind = 4 := .inl (of_decide_eq_true hq)
  repeat refine zq ?_
  refine At.cond rfl (fun _ => ?_) (fun hq2 => absurd (of_decide_eq_true hq) (of_decide_eq_false hq2))
  repeat refine zq ?_
  refine zr ?_; conv => whnf
  repeat refine zq ?_
  refine At.ret (At.doneB tab_ok hB _ rfl fun w' hw => ⟨?_, hw.fr⟩)
  simp only [rN, if_pos h3, RV.den, SV.den, CV.den, ofConst]
 ·have n3 : ¬ e.kind = 3 := of_decide_eq_false hq
  repeat refine zq ?_
  refine zr ?_; conv => whnf
  repeat refine zq ?_
  refine At.cond rfl (fun hq => ?_) (fun hq => ?_)
  ·have h3 : e.kind = 3 ∨ e.kind = 4 := .inr (of_decide_eq_true hq)
   repeat refine zq ?_
   refine zr ?_; conv => whnf
   repeat refine zq ?_
   refine At.ret (At.doneB tab_ok hB _ rfl fun w' hw => ⟨?_, hw.fr⟩)
   simp only [rN, if_pos h3, RV.den, SV.den, CV.den, ofConst]
  ·have h3 : ¬ (e.kind = 3 ∨ e.kind = 4) := (fun h => h.elim n3 (of_decide_eq_false hq))
   repeat refine zq ?_
   refine zr ?_; conv => whnf
   repeat refine zq ?_
   refine At.cond rfl (fun hq => ?_) (fun hq => ?_)
   ·have h8 : e.kind = 8 := of_decide_eq_true hq
    repeat refine zq ?_
    refine zr ?_; conv => whnf
    refine ⟨.b (rTo e.n 1099511627776), gimp_of (ans_quiet b146 (fun w' _ => rto_c _ _ w')), ?_⟩; conv => whnf
    repeat refine zq ?_
    refine At.ret (At.doneB tab_ok hB _ rfl fun w' hw => ⟨?_, hw.fr⟩)
    simp only [rN, if_neg h3, if_pos h8, RV.den, SV.den, CV.den, ofConst]
   ·have h8 : ¬ (e.kind = 8) := of_decide_eq_false hq
    repeat refine zq ?_
    refine zr ?_; conv => whnf
    repeat refine zq ?_
    refine At.cond rfl (fun hq => ?_) (fun hq => ?_)
    ·have h9 : e.kind = 9 := of_decide_eq_true hq
     repeat refine zq ?_
     refine zr ?_; conv => whnf
     refine ans_call b146 rfl (fun w' _ => rto_c _ _ w') ?_; conv => whnf
     repeat refine zq ?_
     refine At.ret (At.doneB tab_ok hB _ rfl fun w' hw => ⟨?_, hw.fr⟩)
     simp only [rN, if_neg h3, if_neg h8, if_pos h9, RV.den, SV.den, CV.den, ofConst]
    ·have h9 : ¬ (e.kind = 9) := of_decide_eq_false hq
     repeat refine zq ?_
     refine zr ?_; conv => whnf
     repeat refine zq ?_
     refine At.cond rfl (fun hq => ?_) (fun hq => ?_)
     ·have h10 : e.kind = 10 := of_decide_eq_true hq
      repeat refine zq ?_
      refine zr ?_; conv => whnf
      repeat refine zq ?_
      refine At.ret (At.doneB tab_ok hB _ rfl fun w' hw => ⟨?_, hw.fr⟩)
      simp only [rN, if_neg h3, if_neg h8, if_neg h9, if_pos h10, RV.den, SV.den, CV.den, ofConst]
     ·have h10 : ¬ (e.kind = 10) := of_decide_eq_false hq
      repeat refine zq ?_
      refine zr ?_; conv => whnf
      repeat refine zq ?_
      refine At.cond rfl (fun hq => ?_) (fun hq => ?_)
      ·have h12 : e.kind = 12 := of_decide_eq_true hq
       repeat refine zq ?_
       refine zr ?_; conv => whnf
       refine ans_call b146 rfl (fun w' _ => rto_c _ _ w') ?_; conv => whnf
       repeat refine zq ?_
       refine At.ret (At.doneB tab_ok hB _ rfl fun w' hw => ⟨?_, hw.fr⟩)
       simp only [rN, if_neg h3, if_neg h8, if_neg h9, if_neg h10, if_pos h12, RV.den, SV.den, CV.den, ofConst]
      ·have h12 : ¬ (e.kind = 12) := of_decide_eq_false hq
       repeat refine zq ?_
       refine zr ?_; conv => whnf
       repeat refine zq ?_
       refine At.cond rfl (fun hq => ?_) (fun hq => ?_)
       ·have h15 : e.kind = 15 := of_decide_eq_true hq
        repeat refine zq ?_
        refine zr ?_; conv => whnf
        refine ans_call b146 rfl (fun w' _ => rto_c _ _ w') ?_; conv => whnf
        repeat refine zq ?_
        refine At.ret (At.doneB tab_ok hB _ rfl fun w' hw => ⟨?_, hw.fr⟩)
        simp only [rN, if_neg h3, if_neg h8, if_neg h9, if_neg h10, if_neg h12, if_pos h15, RV.den, SV.den, CV.den, ofConst]
       ·have h15 : ¬ (e.kind = 15) := of_decide_eq_false hq
        refine At.skip ?_
        repeat refine zq ?_
        refine zr ?_; conv => whnf
        refine ans_call b146 rfl (fun w' _ => rto_c _ _ w') ?_; conv => whnf
        repeat refine zq ?_
        refine At.ret (At.doneB tab_ok hB _ rfl fun w' hw => ⟨?_, hw.fr⟩)
        simp only [rN, if_neg h3, if_neg h8, if_neg h9, if_neg h10, if_neg h12, if_neg h15, RV.den, SV.den, CV.den, ofConst]
theorem rright_c (e : En) (k y s : Value) (S : List Nat) (w : World) (h : EnIn S w e k y s) : Ans Tryz.prog 101 [vE e k y s] (.b (rRight e)) w := by
 replace h := h.nilS
 have hkl := h.k.len
 have hyl := h.y.len
 have hsl := h.s.len
 have hu : (rUses e.kind).length ≤ 1000000 := Nat.le_trans (rUses_len _) (by decide)
 refine calls_plainB [.s (.agg (encE e k y s))] Tryz.func101 rfl rfl (Nat.le_of_ble_eq_true rfl) rfl fun B hB => ?_
 repeat refine zq ?_
 refine zr ?_; conv => whnf
 refine ⟨h.k.one, ?_⟩; conv => whnf
 refine ⟨h.y.one, ?_⟩; conv => whnf
 refine ⟨h.s.one, ?_⟩; conv => whnf
 intro b; conv => whnf
 repeat refine zq ?_
 refine zr ?_; conv => whnf
 refine ans_call b146 rfl (fun w' _ => rto_c _ _ w') ?_; conv => whnf
 refine ⟨.b (rTo e.seq 1048575), gimp_of (ans_quiet b146 (fun w' _ => rto_c _ _ w')), ?_⟩; conv => whnf
 refine ⟨.b (rTo e.day 1048576), gimp_of (ans_quiet b146 (fun w' _ => rto_c _ _ w')), ?_⟩; conv => whnf
 refine ⟨.b (rTo e.kind 20), gimp_of (ans_quiet b146 (fun w' _ => rto_c _ _ w')), ?_⟩; conv => whnf
 refine ⟨.b (rSpare e), gimp_of (ans_quiet b147 (fun w' hw => rspare_c e k y s [] w' (h.fr hw.fr))), ?_⟩; conv => whnf
 repeat refine zq ?_
 refine At.cond rfl (fun hq => ?_) (fun hq => At.skip ?_)
 ·have hA : rRA e = true := hq
  repeat refine zq ?_
  refine zr ?_; conv => whnf
  repeat refine zq ?_
  refine At.ret (At.doneB tab_ok hB _ rfl fun w' hw => ⟨?_, hw.fr⟩)
  rw [show rRight e = false by unfold rRight; rw [hA]; rfl]
 have hA : rRA e = false := hq
 clear hq
 repeat refine zq ?_
 refine zr ?_; conv => whnf
 refine ⟨h.k.sl, ?_⟩; conv => whnf
 refine ⟨.b (rAsc e.knows 1073741824), gimp_of (ans_quiet b148 (fun w' hw => rasc_c e.knows _ [] k w' (h.k.fr hw.fr))), ?_⟩; conv => whnf
 refine ⟨.b (rTo e.circle 1073741824), gimp_of (ans_quiet b146 (fun w' _ => rto_c _ _ w')), ?_⟩; conv => whnf
 refine ⟨.b (rTo e.who 199), gimp_of (ans_quiet b146 (fun w' _ => rto_c _ _ w')), ?_⟩; conv => whnf
 repeat refine zq ?_
 refine At.cond rfl (fun hq => ?_) (fun hq => At.skip ?_)
 ·have hV : rRB e = true := by rw [hkl] at hq; exact hq
  repeat refine zq ?_
  refine zr ?_; conv => whnf
  repeat refine zq ?_
  refine At.ret (At.doneB tab_ok hB _ rfl fun w' hw => ⟨?_, hw.fr⟩)
  rw [show rRight e = false by unfold rRight; rw [hA, hV]; rfl]
 have hV : rRB e = false := by rw [hkl] at hq; exact hq
 clear hq
 repeat refine zq ?_
 refine zr ?_; conv => whnf
 refine ans_call b149 rfl (fun w' _ => ruses_c _ w') ?_; conv => whnf
 repeat refine zq ?_
 refine zr ?_; conv => whnf
 refine ans_call b150 rfl (fun w' _ => rin_c _ 107 hu w') ?_; conv => whnf
 refine ⟨by simp only [gimp]; intros; exact h.y.sl, ?_⟩; conv => whnf
 refine ⟨by simp only [gimp]; intros; exact h.y.sl, ?_⟩; conv => whnf
 refine ⟨.b (rAsc e.keys 199), gimp_of (ans_quiet b148 (fun w' hw => rasc_c e.keys _ [] y w' (h.y.fr hw.fr))), ?_⟩; conv => whnf
 repeat refine zq ?_
 refine At.cond rfl (fun hq => ?_) (fun hq => At.skip ?_)
 ·have hC : rRC e = true := by rw [hyl] at hq; exact hq
  repeat refine zq ?_
  refine zr ?_; conv => whnf
  repeat refine zq ?_
  refine At.ret (At.doneB tab_ok hB _ rfl fun w' hw => ⟨?_, hw.fr⟩)
  rw [show rRight e = false by unfold rRight; rw [hA, hV, hC]; rfl]
 have hC : rRC e = false := by rw [hyl] at hq; exact hq
 clear hq
 repeat refine zq ?_
 refine zr ?_; conv => whnf
 refine ans_call b150 rfl (fun w' _ => rin_c _ 115 hu w') ?_; conv => whnf
 refine ⟨by simp only [gimp]; intros; exact h.s.sl, ?_⟩; conv => whnf
 refine ⟨by simp only [gimp]; intros; exact h.s.sl, ?_⟩; conv => whnf
 refine ⟨.b (rNormal e.spans), gimp_of (ans_quiet b151 (fun w' hw => rnormal_c e.spans [] s w' (h.s.fr hw.fr))), ?_⟩; conv => whnf
 repeat refine zq ?_
 refine At.cond rfl (fun hq => ?_) (fun hq => At.skip ?_)
 ·have hD : rRD e = true := by rw [hsl] at hq; exact hq
  repeat refine zq ?_
  refine zr ?_; conv => whnf
  repeat refine zq ?_
  refine At.ret (At.doneB tab_ok hB _ rfl fun w' hw => ⟨?_, hw.fr⟩)
  rw [show rRight e = false by unfold rRight; rw [hA, hV, hC, hD]; rfl]
 have hD : rRD e = false := by rw [hsl] at hq; exact hq
 clear hq
 repeat refine zq ?_
 refine zr ?_; conv => whnf
 refine ans_call b152 rfl (fun w' hw => rref_c e k y s [] w' (h.fr hw.fr)) ?_; conv => whnf
 refine ⟨.b (rN e), gimp_of (ans_quiet b153 (fun w' hw => rn_c e k y s [] w' (h.fr hw.fr))), ?_⟩; conv => whnf
 refine ⟨.b (rM e), gimp_of (ans_quiet b154 (fun w' hw => rm_c e k y s [] w' (h.fr hw.fr))), ?_⟩; conv => whnf
 repeat refine zq ?_
 refine At.ret (At.doneB tab_ok hB _ rfl fun w' hw => ⟨?_, hw.fr⟩)
 rw [show rRight e = (bif (bif rRef e then rN e else false) then rM e else false) by unfold rRight; rw [hA, hV, hC, hD]; rfl]
end Go.Proofs.YtdigebokbhmfaaaGreatDoor
namespace Go.Proofs.YtdigebokbhmfaaaGreatDoor.Ap
open Go.Vc Rt Go.Bs
set_option maxHeartbeats 1000000
def forkB (N : List Nd) (a b : Int) : Bool := (!decide (a = b) && !beforeB N a b) && !beforeB N b a
theorem fork_r (h rb : Nat) (N : List Nd) (hN : NOk N) (a b : Int) (w : World) (H : HR [] w h rb N) : Ans Tryz.prog 128 [ptr h, vI a, vI b] (.b (forkB N a b)) w := by
 refine calls_e [.x (ptr h), .i a, .i b] Tryz.func128 rfl rfl (Nat.le_of_ble_eq_true rfl) trivial fun B hB => ?_
 repeat refine zq ?_
 refine zr ?_; conv => whnf
 repeat refine zq ?_
 refine zr ?_; conv => whnf
 refine ⟨.b (beforeB N a b), gimp_of (ans_quiet b14 (fun w' hw => before_r h rb N hN a b w' (H.ext hw.fr))), ?_⟩; conv => whnf
 refine ⟨.b (beforeB N b a), gimp_of (ans_quiet b14 (fun w' hw => before_r h rb N hN b a w' (H.ext hw.fr))), ?_⟩; conv => whnf
 repeat refine zq ?_
 refine At.ret (At.doneB tab_ok hB _ rfl fun w' hw => ⟨?_, hw.fr⟩)
 simp only [RV.den, SV.den, CV.den, band, forkB, decide_not]
theorem build108 {dst : Option Nat} {ty : TypeId} {pos : String} {after : Array Edge} {guard : Option (Nat × Bool)} (ρ : Operand → Value) (w : World) : (execOp ρ { dst := dst, op := .build 108 #[], type := ty, pos := pos, after := after, guard := guard }).run Tryz.prog w = .ok (.value (RV.s (.agg [.i 0, .i 0])).den) w := by kernel_rfl
theorem pair_none (h rb : Nat) (N : List Nd) (hN : NOk N) (l : List Int) (hf : ∀ a ∈ l, ∀ b ∈ l, forkB N a b = false) (v : Value) (w : World) (H : HR [] w h rb N) (hl : SlOf intT [] w v l) :
  Ans Tryz.prog 77 [ptr h, v] (.tup [.agg [.i 0, .i 0], .c (.b false)]) w := by
 have hln := hl.len
 have hsm := hl.small
 refine calls_e [.x (ptr h), .x v] Tryz.func77 rfl rfl (Nat.le_of_ble_eq_true rfl) trivial fun B hB => ?_
 repeat refine zq ?_
 refine zr ?_; conv => whnf
 intro b4; conv => whnf
 repeat refine zq ?_
 refine zr ?_; conv => whnf
 refine ⟨hl.sl, ?_⟩; conv => whnf
 repeat refine zq ?_
 refine At.block ?_
 refine At.loopH (fun k : Nat => { N := Tryz.f77.ntmps, sl := [(0, some (.x ((ptr h)))), (1, some (.x v)), (4, some (.s (.c (.p 0 b4 0)))), (5, some (.b false)), (10, some (.x v)), (11, some (.i l.length)), (12, some (.i k))], gl := [], hp := [(0, .box b4 108 [.i 0, .i 0])], S := [], ws := w }) (fun k : Nat => k ≤ l.length) (fun k : Nat => l.length - k)
  (fun w' hw => ⟨0, Nat.zero_le _, Le.of rfl rfl ⟨rfl, rfl, rfl, rfl, rfl, congrArg (Value.int .i64) hln, rfl, trivial⟩, hw.keep [0] rfl rfl rfl, ⟨⟨_, _, rfl⟩, trivial⟩, trivial⟩) ?_
 intro k hk
 repeat refine zq ?_
 refine zr ?_; conv => whnf
 repeat refine zq ?_
 refine At.cond rfl (fun hc => At.skip ?_) (fun hc => At.exit ?_)
 ·have hlt : k < l.length := by have := of_decide_eq_true hc; omega
  obtain ⟨x, hx⟩ : ∃ x, l[k]? = some x := ⟨_, List.getElem?_eq_getElem hlt⟩
  have hlt : k < l.length := by have := of_decide_eq_true hc; omega
  repeat refine zq ?_
  refine At.block ?_
  repeat refine zq ?_
  refine zr ?_; conv => whnf
  refine ⟨by omega, ?_⟩; conv => whnf
  refine ⟨by omega, ?_⟩; conv => whnf
  refine ⟨[.i x], fun w' hw => hl.load (n := 1) hw.fr hx rfl, ?_⟩; conv => whnf
  repeat refine zq ?_
  refine zr ?_; conv => whnf
  refine ⟨hl.sl, ?_⟩; conv => whnf
  repeat refine zq ?_
  refine At.block ?_
  refine At.loopH (fun j : Nat => { N := Tryz.f77.ntmps, sl := [(0, some (.x ((ptr h)))), (1, some (.x v)), (4, some (.s (.c (.p 0 b4 0)))), (5, some (.b false)), (7, some (.i x)), (10, some (.x v)), (11, some (.i l.length)), (12, some (.i k)), (16, some (.x v)), (17, some (.i l.length)), (18, some (.i j))], gl := [], hp := [(0, .box b4 108 [.i 0, .i 0])], S := [], ws := w }) (fun j : Nat => j ≤ l.length) (fun j : Nat => l.length - j)
   (fun w' hw => ⟨0, Nat.zero_le _, Le.of rfl rfl ⟨rfl, rfl, rfl, rfl, rfl, rfl, rfl, rfl, rfl, congrArg (Value.int .i64) hln, rfl, trivial⟩, hw.keep [0] rfl rfl rfl, ⟨⟨_, _, rfl⟩, trivial⟩, trivial⟩) ?_
  intro j hj
  repeat refine zq ?_
  refine zr ?_; conv => whnf
  repeat refine zq ?_
  refine At.cond rfl (fun hc => At.skip ?_) (fun hc => At.exit ?_)
  ·have hlty : j < l.length := by have := of_decide_eq_true hc; omega
   obtain ⟨y, hy⟩ : ∃ x, l[j]? = some x := ⟨_, List.getElem?_eq_getElem hlty⟩
   have hltj : j < l.length := by have := of_decide_eq_true hc; omega
   have hno := hf x (List.mem_of_getElem? hx) y (List.mem_of_getElem? hy)
   repeat refine zq ?_
   refine At.block ?_
   repeat refine zq ?_
   refine zr ?_; conv => whnf
   refine ⟨by omega, ?_⟩; conv => whnf
   refine ⟨by omega, ?_⟩; conv => whnf
   refine ⟨[.i y], fun w' hw => hl.load (n := 1) hw.fr hy rfl, ?_⟩; conv => whnf
   repeat refine zq ?_
   refine zr ?_; conv => whnf
   refine ans_call b128 rfl (fun w' hw => fork_r h rb N hN x y w' (H.ext hw.fr)) ?_; conv => whnf
   rw [hno]
   repeat refine zq ?_
   refine At.cond (t := false) rfl (fun hq => by cases hq) (fun _ => At.skip ?_)
   repeat refine zq ?_
   refine zr ?_; conv => whnf
   refine ⟨⟨by omega, by omega⟩, ?_⟩; conv => whnf
   refine At.nextH fun w' hw => ⟨j + 1, by omega, by omega, Le.of rfl rfl ⟨rfl, rfl, rfl, rfl, rfl, rfl, rfl, rfl, rfl, rfl, rfl, trivial⟩, hw.keep [0] rfl rfl rfl, ⟨⟨_, _, rfl⟩, trivial⟩, trivial⟩
  ·have hge : j = l.length := by have := of_decide_eq_false hc; omega
   subst hge
   repeat refine zq ?_
   refine zr ?_; conv => whnf
   refine ⟨⟨by omega, by omega⟩, ?_⟩; conv => whnf
   refine At.nextH fun w' hw => ⟨k + 1, by omega, by omega, Le.of rfl rfl ⟨rfl, rfl, rfl, rfl, rfl, rfl, rfl, trivial⟩, hw.keep [0] rfl rfl rfl, ⟨⟨_, _, rfl⟩, trivial⟩, trivial⟩
 ·have hge : k = l.length := by have := of_decide_eq_false hc; omega
  subst hge
  repeat refine zq ?_
  refine zr ?_; conv => whnf
  refine ⟨.s (.agg [.i 0, .i 0]), gq fun ρ hρ w' hw => build108 ρ w', ?_⟩; conv => whnf
  repeat refine zq ?_
  refine At.ret (At.doneB tab_ok hB _ rfl fun w' hw => ⟨rfl, hw.fr⟩)
def NoFork (N : List Nd) : Prop := ∀ a ∈ marksB N, ∀ b ∈ marksB N, (entB N a).author = (entB N b).author → forkB N a b = false
theorem sorted_mem {N : List Nd} {x : Int} : x ∈ sortedB N ↔ x ∈ marksB N := by
 unfold sortedB
 rw [(marks_perm N).mem_iff]
 exact ((canB_perm N).map Nd.mark).mem_iff
theorem ent_ok {N : List Nd} (hN : NOk N) {x : Int} (h : x ∈ marksB N) (hn : (N.map Nd.mark).Nodup) : EnR (entB N x) := by
 obtain ⟨n, hm, rfl⟩ := marksB_mem h
 obtain ⟨i, hi⟩ := List.getElem?_of_mem hm
 unfold entB
 rw [alook_mark hn hi]
 show EnR (nodeAt N (i : Int)).e
 rw [nodeAt_get hi]
 exact (hN.nd i n hi).2.2.2.2.1
theorem forks_none (h rb : Nat) (N : List Nd) (hN : NOk N) (hno : NoFork N) (w : World) (H : HR [] w h rb N) : Ans Tryz.prog 50 [ptr h] (.x (.slice none 0 0)) w := by
 have hNl := hN.len
 have hsl := sortedB_len N
 have hol := own_len N (sortedB N)
 have hnd := hr_nd H
 refine calls_e [.x (ptr h)] Tryz.func50 rfl rfl (Nat.le_of_ble_eq_true rfl) trivial fun B hB => ?_
 repeat refine zq ?_
 refine zr ?_; conv => whnf
 repeat refine zq ?_
 refine zr ?_; conv => whnf
 repeat refine zq ?_
 refine zr ?_; conv => whnf
 refine newAbG_call (fun i : Nat × List (Int × Value) × List Nat => .x (.map (some i.1))) (fun i => i.2.2) (fun i => OwnQ i.1 i.2.1 i.2.2 (ownB N)) (fun i => OwnG i.2.1 (ownB N)) b48 (fun _ => rfl) (fun w' hw => own_r h rb N hN w' (H.ext hw.fr)) ?_
 rintro ⟨m, vs, Bs⟩ hg
 conv => whnf
 repeat refine zq ?_
 refine zr ?_; conv => whnf
 refine keys_call ?_
 intro bk; conv => whnf
 refine ansR_call b75 (rd1 (nopI _)) (fun w' hw => by
  have ho : OwnR [] w' m vs (ownB N) := (hw.objs _ (look_mem (s := 0) rfl)).2 w' fun _ _ => rfl
  have hvl : vs.length = (ownB N).length := by have := congrArg List.length ho.keys; simpa using this
  have hob : (ownB N).length ≤ (sortedB N).length := hol
  have := sortedKeys_c m bk vs w' ho.map (fun p hp => by
   have : p.1 ∈ (ownB N).map (·.1) := by rw [← ho.keys]; exact List.mem_map.2 ⟨p, hp, rfl⟩
   obtain ⟨q, hq, e⟩ := List.mem_map.1 this
   obtain ⟨x, hx, e2⟩ := own_keys N (sortedB N) hq
   have := (ent_ok hN (sorted_mem.1 hx) hnd).author
   rw [e2, e] at this; exact this) (by omega) (hw.box (id := 1) rfl)
  rw [ho.keys] at this; exact this) ?_
 intro vk; conv => whnf
 generalize hks : sortI ((ownB N).map (·.1)) = ks
 have hkl : ks.length = (ownB N).length := by rw [← hks, sortI_len, List.length_map]
 have hob : (ownB N).length ≤ (sortedB N).length := hol
 refine ⟨rfl, ?_⟩; conv => whnf
 repeat refine zq ?_
 refine At.block ?_
 refine At.loopH (fun k : Nat => { N := Tryz.f50.ntmps, sl := [(0, some (.x ((ptr h)))), (3, some (.x ((.slice none 0 0)))), (4, some (.x ((.map (some m))))), (13, some (.s (.c (.o 2 vk)))), (14, some (.i ks.length)), (15, some (.i k))], gl := [], hp := [(2, .row vk 3 1 (ks.map encI)), (0, LO.ab Bs (OwnQ m vs Bs (ownB N)))], S := [], ws := w }) (fun k : Nat => k ≤ ks.length) (fun k : Nat => ks.length - k)
  (fun w' hw => ⟨0, Nat.zero_le _, Le.of rfl rfl ⟨rfl, rfl, rfl, rfl, congrArg (Value.int .i64) (by simp), rfl, trivial⟩, hw.keep [2, 0] rfl rfl rfl, ⟨⟨_, _, _, rfl⟩, trivial⟩, ⟨(nopI _).okH, trivial⟩⟩) ?_
 intro k hk
 repeat refine zq ?_
 refine zr ?_; conv => whnf
 repeat refine zq ?_
 refine At.cond rfl (fun hc => At.skip ?_) (fun hc => At.exit ?_)
 ·have hlta : k < ks.length := by have := of_decide_eq_true hc; omega
  obtain ⟨a, ha⟩ : ∃ x, ks[k]? = some x := ⟨_, List.getElem?_eq_getElem hlta⟩
  have hlt : k < ks.length := by have := of_decide_eq_true hc; omega
  have hll : ∀ b ∈ (alook (ownB N) a).getD [], b ∈ marksB N ∧ (entB N b).author = a := fun b hb => by
   unfold ownB at hb
   rw [own_look] at hb
   have := List.mem_filter.1 hb
   exact ⟨sorted_mem.1 this.1, of_decide_eq_true this.2⟩
  repeat refine zq ?_
  refine At.block ?_
  repeat refine zq ?_
  refine zr ?_; conv => whnf
  refine ⟨rfl, ?_⟩; conv => whnf
  refine ⟨by omega, ?_⟩; conv => whnf
  refine ⟨by (try simp only [List.length_map]); omega, ?_⟩; conv => whnf
  refine ⟨encI a, ⟨rfl, rfl, by omega, by rw [Int.toNat_natCast, List.getElem?_map, ha]; rfl⟩, ?_⟩; conv => whnf
  repeat refine zq ?_
  refine zr ?_; conv => whnf
  refine ⟨.x ((alook vs a).getD (.slice none 0 0)), gimp_of (rawQ_l rfl rfl (fun w' hw => (((hw.objs _ (look_mem (s := 0) rfl)).2 w' fun _ _ => rfl : OwnR [] w' m vs (ownB N))).map)), ?_⟩; conv => whnf
  refine ans_call b77 rfl (fun w' hw => pair_none h rb N hN ((alook (ownB N) a).getD []) (fun x hx y hy => hno x (hll x hx).1 y (hll y hy).1 ((hll x hx).2.trans (hll y hy).2.symm)) _ w' (H.ext hw.fr) ((((hw.objs _ (look_mem (s := 0) rfl)).2 w' fun _ _ => rfl : OwnR [] w' m vs (ownB N))).sl a)) ?_; conv => whnf
  intro b7; conv => whnf
  repeat refine zq ?_
  refine zr ?_; conv => whnf
  repeat refine zq ?_
  refine At.cond (t := false) rfl (fun hq => by cases hq) (fun _ => At.skip ?_)
  repeat refine zq ?_
  refine zr ?_; conv => whnf
  refine ⟨⟨by omega, by omega⟩, ?_⟩; conv => whnf
  refine At.nextH fun w' hw => ⟨k + 1, by omega, by omega, Le.of rfl rfl ⟨rfl, rfl, rfl, rfl, rfl, rfl, trivial⟩, hw.keep [2, 0] rfl rfl rfl, ⟨⟨_, _, _, rfl⟩, trivial⟩, ⟨(nopI _).okH, trivial⟩⟩
 ·have hge : k = ks.length := by have := of_decide_eq_false hc; omega
  subst hge
  repeat refine zq ?_
  refine zr ?_; conv => whnf
  repeat refine zq ?_
  refine At.ret (At.doneB tab_ok hB _ rfl fun w' hw => ⟨rfl, hw.fr⟩)
theorem guilty_none (h rb : Nat) (N : List Nd) (hN : NOk N) (hno : NoFork N) (w : World) (H : HR [] w h rb N) : Ans Tryz.prog 23 [ptr h] (.x (.slice none 0 0)) w := by
 refine calls_e [.x (ptr h)] Tryz.func23 rfl rfl (Nat.le_of_ble_eq_true rfl) trivial fun B hB => ?_
 repeat refine zq ?_
 refine zr ?_; conv => whnf
 repeat refine zq ?_
 refine zr ?_; conv => whnf
 repeat refine zq ?_
 refine zr ?_; conv => whnf
 refine ans_call b50 rfl (fun w' hw => forks_none h rb N hN hno w' (H.ext hw.fr)) ?_; conv => whnf
 refine ⟨nilSl, ?_⟩; conv => whnf
 repeat refine zq ?_
 refine At.block ?_
 refine At.loopH (fun u : Nat => { N := Tryz.f23.ntmps, sl := [(3, some (.x ((.slice none 0 0)))), (10, some (.i 0)), (11, some (.i 0))], gl := [], hp := [], S := [], ws := w }) (fun u : Nat => True) (fun u : Nat => 0)
  (fun w' hw => ⟨0, trivial, Le.of rfl rfl ⟨rfl, rfl, rfl, trivial⟩, hw.same rfl rfl rfl, trivial, trivial⟩) ?_
 intro u _
 repeat refine zq ?_
 refine zr ?_; conv => whnf
 repeat refine zq ?_
 refine At.cond rfl (fun hq => ?_) (fun _ => At.exit ?_)
 ·exact absurd (of_decide_eq_true hq) (by decide)
 repeat refine zq ?_
 refine zr ?_; conv => whnf
 repeat refine zq ?_
 refine At.ret (At.doneB tab_ok hB _ rfl fun w' hw => ⟨rfl, hw.fr⟩)
def ownOf (N : List Nd) (a : Int) : List Int := (sortedB N).filter fun m => decide ((entB N m).author = a)
theorem ownOf_eq (N : List Nd) (a : Int) : (alook (ownB N) a).getD [] = ownOf N a := own_look N a (sortedB N)
def badSt (N : List Nd) (l : List Int) (i : Nat) : Bool := !decide ((entB N (l.getD i 0)).seq = (i : Int)) || (decide (0 < i) && !beforeB N (l.getD (i - 1) 0) (l.getD i 0))
def straightB (N : List Nd) (a : Int) : Bool := (List.range (ownOf N a).length).all fun i => !badSt N (ownOf N a) i
theorem straight_r (h rb : Nat) (N : List Nd) (hN : NOk N) (a : Int) (w : World) (H : HR [] w h rb N) : Ans Tryz.prog 17 [ptr h, vI a] (.b (straightB N a)) w := by
 have hNl := hN.len
 have hsl := sortedB_len N
 refine calls_e [.x (ptr h), .i a] Tryz.func17 rfl rfl (Nat.le_of_ble_eq_true rfl) trivial fun B hB => ?_
 repeat refine zq ?_
 refine zr ?_; conv => whnf
 repeat refine zq ?_
 refine zr ?_; conv => whnf
 refine newAbG_call (fun i : Nat × List (Int × Value) × List Nat => .x (.map (some i.1))) (fun i => i.2.2) (fun i => OwnQ i.1 i.2.1 i.2.2 (ownB N)) (fun i => OwnG i.2.1 (ownB N)) b48 (fun _ => rfl) (fun w' hw => own_r h rb N hN w' (H.ext hw.fr)) ?_
 rintro ⟨m, vs, Bs⟩ hg
 conv => whnf
 refine ⟨.x ((alook vs a).getD (.slice none 0 0)), gimp_of (rawQ_l rfl rfl (fun w' hw => (((hw.objs _ (look_mem (s := 0) rfl)).2 w' fun _ _ => rfl : OwnR [] w' m vs (ownB N))).map)), ?_⟩; conv => whnf
 obtain ⟨hvs, hvn⟩ := hg a
 rw [ownOf_eq] at hvn
 have hll : (ownOf N a).length ≤ (sortedB N).length := List.length_filter_le _ _
 have hst : straightB N a = (List.range (ownOf N a).length).all fun i => !badSt N (ownOf N a) i := rfl
 have hSl : ∀ w', OwnR [] w' m vs (ownB N) → SlOf intT [] w' ((alook vs a).getD (.slice none 0 0)) (ownOf N a) := fun w' ho => by rw [← ownOf_eq]; exact ho.sl a
 generalize (alook vs a).getD (.slice none 0 0) = v at hvs hvn hSl ⊢
 generalize ownOf N a = l at hvn hll hst hSl ⊢
 repeat refine zq ?_
 refine zr ?_; conv => whnf
 refine ⟨hvs, ?_⟩; conv => whnf
 repeat refine zq ?_
 refine At.block ?_
 refine At.loopH (fun k : Nat => { N := Tryz.f17.ntmps, sl := [(0, some (.x ((ptr h)))), (5, some (.x v)), (14, some (.x v)), (15, some (.i l.length)), (16, some (.i k))], gl := [], hp := [(0, LO.ab Bs (OwnQ m vs Bs (ownB N)))], S := [], ws := w }) (fun k : Nat => k ≤ l.length ∧ ∀ j, j < k → (fun i => !badSt N l i) j = true) (fun k : Nat => l.length - k)
  (fun w' hw => ⟨0, ⟨Nat.zero_le _, fun j hj => by omega⟩, Le.of rfl rfl ⟨rfl, rfl, rfl, congrArg (Value.int .i64) hvn, rfl, trivial⟩, hw.keep [0] rfl rfl rfl, trivial, trivial⟩) ?_
 rintro k ⟨hk, hall⟩
 repeat refine zq ?_
 refine zr ?_; conv => whnf
 repeat refine zq ?_
 refine At.cond rfl (fun hc => At.skip ?_) (fun hc => At.exit ?_)
 ·have hlt : k < l.length := by have := of_decide_eq_true hc; omega
  have hx := getD_some hlt
  repeat refine zq ?_
  refine At.block ?_
  repeat refine zq ?_
  refine zr ?_; conv => whnf
  refine ⟨by omega, ?_⟩; conv => whnf
  refine ⟨by omega, ?_⟩; conv => whnf
  refine ⟨[.i (l.getD k 0)], fun w' hw => (hSl w' ((hw.objs _ (look_mem (s := 0) rfl)).2 w' fun _ _ => rfl)).load (n := 1) (ext_refl w') hx rfl, ?_⟩; conv => whnf
  repeat refine zq ?_
  refine zr ?_; conv => whnf
  refine entry_call (h := h) (rb := rb) (N := N) (mk := l.getD k 0) hN (fun w' hw => H.ext hw.fr) ?_
  intro k4 y5 s6; conv => whnf
  intro b7; conv => whnf
  repeat refine zq ?_
  refine zr ?_; conv => whnf
  refine ⟨by simp only [gimp]; intro h1 _; have := of_decide_eq_true h1; exact ⟨by omega, by omega⟩, ?_⟩; conv => whnf
  refine ⟨by simp only [gimp]; intro h1 _; have := of_decide_eq_true h1; omega, ?_⟩; conv => whnf
  refine ⟨by simp only [gimp]; intro h1 _; have := of_decide_eq_true h1; omega, ?_⟩; conv => whnf
  refine ⟨[.i (l.getD (k - 1) 0)], by simp only [gimp]; intro h1 _ w' hw; have := of_decide_eq_true h1; exact (hSl w' ((hw.objs _ (look_mem (s := 0) rfl)).2 w' fun _ _ => rfl)).loadI (n := 1) (ext_refl w') (by omega) (by rw [← getD_some (by omega)]; congr 1; omega) rfl, ?_⟩; conv => whnf
  refine ⟨.b (beforeB N (l.getD (k - 1) 0) (l.getD k 0)), gimp_of (ans_quiet b14 (fun w' hw => before_r h rb N hN _ _ w' (H.ext hw.fr))), ?_⟩; conv => whnf
  have eb : (!decide ((entB N (l.getD k 0)).seq = (k : Int)) || (decide (0 < (k : Int)) && !beforeB N (l.getD (k - 1) 0) (l.getD k 0))) = badSt N l k := by
   unfold badSt; rw [show decide (0 < (k : Int)) = decide (0 < k) by rw [decide_eq_decide]; omega]
  repeat refine zq ?_
  refine At.cond rfl (fun hq => ?_) (fun hq => At.skip ?_)
  ·have hB' : badSt N l k = true := by rw [← eb]; simpa only [bor, band] using hq
   repeat refine zq ?_
   refine zr ?_; conv => whnf
   repeat refine zq ?_
   refine At.ret (At.doneB tab_ok hB _ rfl fun w' hw => ⟨?_, hw.fr⟩)
   rw [hst, all_false (k := k) hlt (by rw [hB']; rfl)]
  ·have hB' : badSt N l k = false := by rw [← eb]; simpa only [bor, band] using hq
   repeat refine zq ?_
   refine zr ?_; conv => whnf
   refine ⟨⟨by omega, by omega⟩, ?_⟩; conv => whnf
   refine At.nextH fun w' hw => ⟨k + 1, ⟨by omega, fun j hj => by rcases Nat.lt_or_ge j k with h' | h'; exact hall j h'; obtain rfl : j = k := (by omega); simp only; rw [hB']; rfl⟩, by omega, Le.of rfl rfl ⟨rfl, rfl, rfl, rfl, rfl, trivial⟩, hw.keep [0] rfl rfl rfl, trivial, trivial⟩
 ·have hge : k = l.length := by have := of_decide_eq_false hc; omega
  subst hge
  repeat refine zq ?_
  refine zr ?_; conv => whnf
  repeat refine zq ?_
  refine At.ret (At.doneB tab_ok hB _ rfl fun w' hw => ⟨?_, hw.fr⟩)
  rw [hst, all_true hall]
end Go.Proofs.YtdigebokbhmfaaaGreatDoor.Ap
namespace Go.Proofs.YtdigebokbhmfaaaGreatDoor.Ap
open Go.Vc Rt Go.Bs
theorem sortI_sorted (xs : List Int) : (sortI xs).Pairwise (· ≤ ·) := by
 have := List.pairwise_mergeSort (le := fun x y : Int => decide (x ≤ y)) (fun a b c h1 h2 => by simp only [decide_eq_true_eq] at *; omega) (fun a b => by simp only [Bool.or_eq_true, decide_eq_true_eq]; omega) xs
 exact this.imp fun h => of_decide_eq_true h
theorem sortI_perm (xs : List Int) : (sortI xs).Perm xs := List.mergeSort_perm _ _
theorem sortI_eq {xs ys : List Int} (h : xs.Perm ys) : sortI xs = sortI ys :=
 List.Perm.eq_of_pairwise (le := fun a b : Int => a ≤ b) (fun a b _ _ h1 h2 => Int.le_antisymm h1 h2) (sortI_sorted xs) (sortI_sorted ys) ((sortI_perm xs).trans (h.trans (sortI_perm ys).symm))
theorem mks_mem {N : List Nd} {m : Int} : m ∈ marksB N ↔ m ∈ mksN N := (marks_perm N).mem_iff
theorem sor_mem {N : List Nd} {m : Int} : m ∈ sortedB N ↔ m ∈ mksN N := sorted_mem.trans mks_mem
theorem marks_eq {R : List SK} {N N' : List Nd} (h : GN R N) (h' : GN R N') (e : ∀ m, m ∈ mksN N ↔ m ∈ mksN N') : marksB N = marksB N' :=
 sortI_eq ((List.perm_ext_iff_of_nodup h.nodup h'.nodup).2 e)
theorem sorted_perm (N : List Nd) : (sortedB N).Perm (mksN N) := (canB_perm N).map Nd.mark
theorem GN.snodup {R : List SK} {N : List Nd} (h : GN R N) : (sortedB N).Nodup := (sorted_perm N).nodup_iff.2 h.nodup
def ndOf (N : List Nd) (m : Int) : Nd := nodeAt N ((alook (hidx N) m).getD 0)
theorem GN.ndOf {R : List SK} {N : List Nd} (h : GN R N) {i : Nat} {n : Nd} (hi : N[i]? = some n) : ndOf N n.mark = n := by
 unfold Ap.ndOf
 rw [h.look hi, Option.getD_some, nodeAt_get hi]
theorem sorted_pw {R : List SK} {N X : List Nd} (h : GN R N) (hX : GN R X) (hs : ∀ m ∈ mksN X, m ∈ mksN N) : (sortedB X).Pairwise (fun a b => ¬ ltN (Ap.ndOf N b) (Ap.ndOf N a)) := by
 unfold sortedB
 rw [List.pairwise_map]
 refine (canB_pw X).imp_of_mem fun {a b} ha hb hab => ?_
 obtain ⟨i, hi⟩ := List.getElem?_of_mem ((canB_perm X).mem_iff.1 ha)
 obtain ⟨j, hj⟩ := List.getElem?_of_mem ((canB_perm X).mem_iff.1 hb)
 obtain ⟨i', a', hi', ea⟩ := mks_get (hs a.mark (List.mem_map.2 ⟨a, List.mem_of_getElem? hi, rfl⟩))
 obtain ⟨j', b', hj', eb⟩ := mks_get (hs b.mark (List.mem_map.2 ⟨b, List.mem_of_getElem? hj, rfl⟩))
 have la := level_eq h hX i' a' hi' i a hi ea
 have lb := level_eq h hX j' b' hj' j b hj eb
 have ca := (core_eq h hX hi' hi ea).2.2
 have cb := (core_eq h hX hj' hj eb).2.2
 rw [← ea, ← eb, h.ndOf hi', h.ndOf hj']
 unfold ltN at hab ⊢
 rw [la, lb, ca, cb, ea, eb]
 exact hab
theorem sub_sorted {R : List SK} {N X : List Nd} (h : GN R N) (hX : GN R X) (hs : ∀ m ∈ mksN X, m ∈ mksN N) : sortedB X = (sortedB N).filter fun m => (alook (hidx X) m).isSome := by
 have hp : (sortedB X).Perm ((sortedB N).filter fun m => (alook (hidx X) m).isSome) := by
  refine (List.perm_ext_iff_of_nodup hX.snodup (h.snodup.filter _)).2 fun m => ?_
  rw [sor_mem, List.mem_filter, sor_mem, has_iff]
  exact ⟨fun hm => ⟨hs m hm, hm⟩, fun hm => hm.2⟩
 refine List.Perm.eq_of_pairwise (le := fun a b => ¬ ltN (Ap.ndOf N b) (Ap.ndOf N a)) (fun a b ha hb h1 h2 => ?_) (sorted_pw h hX hs) ((sorted_pw h h fun m hm => hm).filter _) hp
 have e := ltN_tot h2 h1
 obtain ⟨i, x, hi, rfl⟩ := mks_get (hs a (sor_mem.1 ha))
 obtain ⟨j, y, hj, rfl⟩ := mks_get (sor_mem.1 (List.mem_filter.1 hb).1)
 rw [h.ndOf hi, h.ndOf hj] at e
 exact e
theorem own_sub {R : List SK} {N X : List Nd} (h : GN R N) (hX : GN R X) (hs : ∀ m ∈ mksN X, m ∈ mksN N) (a : Int) : ownOf X a = (ownOf N a).filter fun m => (alook (hidx X) m).isSome := by
 unfold ownOf
 rw [sub_sorted h hX hs, List.filter_filter, List.filter_filter]
 refine List.filter_congr fun m hm => ?_
 cases hq : (alook (hidx X) m).isSome with
 | false => rw [Bool.and_false, Bool.false_and]
 | true =>
  have hmX := has_iff.1 hq
  rw [ent_eq hX h hmX (hs m hmX), Bool.and_true, Bool.true_and]
theorem GN.own_nodup {R : List SK} {N : List Nd} (h : GN R N) (a : Int) : (ownOf N a).Nodup := h.snodup.filter _
theorem own_mem {N : List Nd} {a m : Int} : m ∈ ownOf N a ↔ m ∈ mksN N ∧ (entB N m).author = a := by
 unfold ownOf
 rw [List.mem_filter, sor_mem, decide_eq_true_eq]
theorem GN.sorted_anc {R : List SK} {N : List Nd} (h : GN R N) : (sortedB N).Pairwise (fun a b => ¬ AncR R b a) := by
 refine (sorted_pw h h fun m hm => hm).imp_of_mem fun {a b} ha hb hab hq => hab ?_
 obtain ⟨i, x, hi, rfl⟩ := mks_get (sor_mem.1 ha)
 obtain ⟨j, y, hj, rfl⟩ := mks_get (sor_mem.1 hb)
 rw [h.ndOf hi, h.ndOf hj]
 exact .inl (h.level_lt hq i j x y hi rfl hj rfl)
theorem GN.own_anc {R : List SK} {N : List Nd} (h : GN R N) (a : Int) : (ownOf N a).Pairwise (fun x y => ¬ AncR R y x) := h.sorted_anc.filter _
def cutO (N : List Nd) (a n : Int) : Nat := (ownOf N a).length - min n.toNat (ownOf N a).length
def goneB (N : List Nd) (a n : Int) : List Int := (ownOf N a).drop (cutO N a n)
def lostQ (N : List Nd) (a n : Int) (m : Int) : Bool := (goneB N a n).any fun g => decide (g = m) || beforeB N g m
def keptB (N : List Nd) (a n : Int) : List Int := (marksB N).filter fun m => !lostQ N a n m
def beforeH (R : List SK) (N : List Nd) (a n : Int) : List Nd := restrictB R N (keptB N a n)
theorem lost_iff {R : List SK} {N : List Nd} (h : GN R N) {a n m : Int} (hm : m ∈ mksN N) : lostQ N a n m = true ↔ ∃ g ∈ goneB N a n, g = m ∨ AncR R g m := by
 unfold lostQ
 rw [List.any_eq_true]
 constructor
 ·rintro ⟨g, hg, hq⟩
  rw [Bool.or_eq_true, decide_eq_true_eq, h.before_iff] at hq
  exact ⟨g, hg, hq.imp _root_.id And.right⟩
 ·rintro ⟨g, hg, hq⟩
  refine ⟨g, hg, ?_⟩
  rw [Bool.or_eq_true, decide_eq_true_eq, h.before_iff]
  exact hq.imp _root_.id fun hq => ⟨hm, hq⟩
section
variable {R : List SK} {N : List Nd} (h : GN R N) (hRl : R.length ≤ 4000) (a n : Int)
include h hRl
theorem before_good : GN R (beforeH R N a n) := (restrict_good h hRl _).1
theorem before_mem {m : Int} : m ∈ mksN (beforeH R N a n) ↔ m ∈ mksN N ∧ lostQ N a n m = false := by
 unfold beforeH
 rw [(restrict_good h hRl _).2]
 unfold keptB
 constructor
 ·rintro ⟨b, hb, hbm, hq⟩
  obtain ⟨hb1, hb2⟩ := List.mem_filter.1 hb
  have hm : m ∈ mksN N := hq.elim (fun e => by rw [e]; exact hbm) fun e => h.anc_mem e hbm
  refine ⟨hm, ?_⟩
  rw [← Bool.not_eq_true, lost_iff h hm]
  rintro ⟨g, hg, hq2⟩
  have : lostQ N a n b = true := (lost_iff h hbm).2 ⟨g, hg, by
   rcases hq with rfl | hq
   ·exact hq2
   ·rcases hq2 with rfl | hq2
    ·exact .inr hq
    ·exact .inr (hq2.trans hq)⟩
  rw [this] at hb2; cases hb2
 ·rintro ⟨hm, hq⟩
  exact ⟨m, List.mem_filter.2 ⟨mks_mem.2 hm, by rw [hq]; rfl⟩, hm, .inl rfl⟩
theorem own_before : ownOf (beforeH R N a n) a = (ownOf N a).take (cutO N a n) := by
 have hX := before_good h hRl a n
 rw [own_sub h hX (fun m hm => ((before_mem h hRl a n).1 hm).1)]
 have hnd := h.own_nodup a
 have hpw := h.own_anc a
 rw [← List.take_append_drop (cutO N a n) (ownOf N a)] at hnd hpw
 conv => lhs; rw [← List.take_append_drop (cutO N a n) (ownOf N a)]
 rw [List.filter_append]
 have e1 : ((ownOf N a).take (cutO N a n)).filter (fun m => (alook (hidx (beforeH R N a n)) m).isSome) = (ownOf N a).take (cutO N a n) := by
  rw [List.filter_eq_self]
  intro m hm
  have hmN := (own_mem.1 (List.mem_of_mem_take hm)).1
  rw [has_iff, before_mem h hRl]
  refine ⟨hmN, ?_⟩
  rw [← Bool.not_eq_true, lost_iff h hmN]
  rintro ⟨g, hg, hq⟩
  rcases hq with rfl | hq
  ·exact (List.nodup_append.1 hnd).2.2 _ hm _ hg rfl
  ·exact (List.pairwise_append.1 hpw).2.2 _ hm _ hg hq
 have e2 : ((ownOf N a).drop (cutO N a n)).filter (fun m => (alook (hidx (beforeH R N a n)) m).isSome) = [] := by
  rw [List.filter_eq_nil_iff]
  intro m hm hq
  have := (before_mem h hRl a n).1 (has_iff.1 hq)
  have hl : lostQ N a n m = true := (lost_iff h this.1).2 ⟨m, hm, .inl rfl⟩
  rw [this.2] at hl; cases hl
 rw [e1, e2, List.append_nil]
end
theorem straight_iff {N : List Nd} {a : Int} : straightB N a = true ↔ ∀ (i : Nat) m, (ownOf N a)[i]? = some m → (entB N m).seq = (i : Int) ∧ ∀ m', 0 < i → (ownOf N a)[i - 1]? = some m' → beforeB N m' m = true := by
 have gd : ∀ {i : Nat} {m : Int}, (ownOf N a)[i]? = some m → (ownOf N a).getD i 0 = m := fun {i m} hi => by rw [List.getD_eq_getElem?_getD, hi]; rfl
 unfold straightB
 rw [List.all_eq_true]
 constructor
 ·intro h i m hi
  have hb := h i (List.mem_range.2 (List.getElem?_eq_some_iff.1 hi).1)
  unfold badSt at hb
  rw [gd hi] at hb
  simp only [Bool.not_or, Bool.not_not, Bool.and_eq_true, decide_eq_true_eq, Bool.not_and, Bool.or_eq_true, Bool.not_eq_true', decide_eq_false_iff_not] at hb
  refine ⟨hb.1, fun m' h0 hi' => ?_⟩
  rw [gd hi'] at hb
  exact hb.2.resolve_left fun hq => hq h0
 ·intro h i hi
  have hi := List.mem_range.1 hi
  obtain ⟨m, hm⟩ : ∃ m, (ownOf N a)[i]? = some m := ⟨_, List.getElem?_eq_getElem hi⟩
  obtain ⟨h1, h2⟩ := h i m hm
  unfold badSt
  rw [gd hm, decide_eq_true h1]
  by_cases h0 : 0 < i
  ·obtain ⟨m', hm'⟩ : ∃ m, (ownOf N a)[i - 1]? = some m := ⟨_, List.getElem?_eq_getElem (by omega)⟩
   rw [gd hm', h2 m' h0 hm']; simp
  ·rw [decide_eq_false h0]; rfl
theorem straight_before {R : List SK} {N : List Nd} (h : GN R N) (hRl : R.length ≤ 4000) (a n : Int) (hs : straightB N a = true) : straightB (beforeH R N a n) a = true := by
 have hX := before_good h hRl a n
 rw [straight_iff] at hs ⊢
 rw [own_before h hRl]
 intro i m hi
 obtain ⟨hlt, hi⟩ := take_some.1 hi
 have hmX : m ∈ mksN (beforeH R N a n) := (own_mem (a := a)).1 (by rw [own_before h hRl]; exact List.mem_of_getElem? (take_some.2 ⟨hlt, hi⟩)) |>.1
 have hmN := ((before_mem h hRl a n).1 hmX).1
 obtain ⟨h1, h2⟩ := hs i m hi
 refine ⟨by rw [ent_eq hX h hmX hmN]; exact h1, fun m' h0 hi' => ?_⟩
 have := h2 m' h0 (take_some.1 hi').2
 rw [h.before_iff] at this
 rw [hX.before_iff]
 exact ⟨hmX, this.2⟩
theorem before_none {R : List SK} {N : List Nd} (h : GN R N) (hRl : R.length ≤ 4000) (a : Int) {n : Int} (hn : n ≤ 0) : marksB (beforeH R N a n) = marksB N := by
 refine marks_eq (before_good h hRl a n) h fun m => ?_
 rw [before_mem h hRl]
 have hg : goneB N a n = [] := by
  unfold goneB cutO
  rw [show n.toNat = 0 by omega, Nat.zero_min, Nat.sub_zero, List.drop_length]
 have : lostQ N a n m = false := by unfold lostQ; rw [hg]; rfl
 exact ⟨fun e => e.1, fun e => ⟨e, this⟩⟩
end Go.Proofs.YtdigebokbhmfaaaGreatDoor.Ap
namespace Go.Proofs.YtdigebokbhmfaaaGreatDoor.Ap
open Go.Vc Rt Go.Bs
set_option maxHeartbeats 1000000
def vT1 : Ty Value := flat 1 (fun v => [.x v]) (fun _ => rfl)
theorem box_v {w : World} {b : Nat} {T : TypeId} {S : List Nat} {v : Value} (hb : w.heap[b]? = some (.cells #[v] T (0, 0))) (hS : b ∉ S) : SlOf vT1 S w (hs b) [v] := by
 have hrow : (LO.row (hs b) T 1 ([v].map fun v => [CV.x v])).holds w := ⟨⟨rfl, .inr ⟨b, 0, 1, _, rfl, hb, Nat.le_refl 1, by unfold maxLen; omega, by simp, rfl⟩⟩, fun l hl => by rw [List.mem_singleton.1 hl]; rfl⟩
 exact SlOf.of_row (enc := fun v => [.x v]) hrow (fun b' hb' => by simp only [hs, blkOf, List.mem_singleton] at hb'; rw [hb']; exact hS) (by simp)
theorem sorted_nd {N : List Nd} (hn : (N.map Nd.mark).Nodup) : (sortedB N).Nodup := ((canB_perm N).map Nd.mark).nodup_iff.2 hn
theorem nodup_get {l : List Int} (hn : l.Nodup) {k : Nat} {x : Int} (hx : l[k]? = some x) : x ∉ l.take k := fun hm => by
 obtain ⟨j, hj⟩ := List.getElem?_of_mem hm
 rw [List.getElem?_take] at hj
 split at hj
 ·rename_i hjk
  obtain ⟨a1, b1⟩ := List.getElem?_eq_some_iff.1 hj
  obtain ⟨a2, b2⟩ := List.getElem?_eq_some_iff.1 hx
  have := (List.getElem_inj (xs := l) (i := j) (j := k) (h₀ := a1) (h₁ := a2) hn).1 (by rw [b1, b2])
  omega
 ·cases hj
theorem setT_put {l : List Int} (hn : l.Nodup) {k : Nat} {x : Int} (hx : l[k]? = some x) : aput ((l.take k).map fun x => (x, true)) x true = (l.take (k + 1)).map fun x => (x, true) := by
 unfold aput; rw [setT_none (nodup_get hn hx), take_snoc hx, List.map_append]; rfl
theorem put_c (h rb : Nat) (N : List Nd) (hN : NOk N) (mv : Value) (b2 b8 b6 ms : Nat) (w : World) (hne : b6 ≠ ms) (H : HR [b6, ms] w h rb N) (h2 : SlOf vT1 [b6, ms] w (hs b2) [ptr h]) (h8 : SlOf vT1 [b6, ms] w (hs b8) [.map (some ms)])
  (h6 : w.heap[b6]? = some (.cells #[.slice none 0 0] 23 (0, 0))) (hm : MapAt vI vB w ms ([] : List (Int × Bool))) (hmv2 : SlOf intT [b6, ms] w mv (marksB N)) :
  Calls Tryz.prog 129 #[mv, ptr b2, ptr b8, ptr b6] w (fun e w' => ∃ v, e = .returned (.tuple #[]) ∧ w'.heap[b6]? = some (.cells #[v] 23 (0, 0)) ∧ (LO.row v 3 1 ((sortedB N).map encI)).holds w' ∧ Fr [b6, ms] w w' ∧ (∀ b ∈ blkOf v, w.heap.size ≤ b) ∧ b6 ∉ blkOf v) := by
 have hNl := hN.len
 have hsl := sortedB_len N
 have hsd := sorted_nd (hr_nd H)
 have hobj : ∀ o ∈ [(0, LO.box b6 23 [.x (.slice none 0 0)]), (1, mapO vI vB ms ([] : List (Int × Bool)))], o.2.holds w := fun o ho => by
  simp only [List.mem_cons, List.not_mem_nil, or_false] at ho
  rcases ho with rfl | rfl
  ·exact h6
  ·exact mapO_holds hm
 have hS : ([(0, LO.box b6 23 [.x (.slice none 0 0)]), (1, mapO vI vB ms ([] : List (Int × Bool)))].flatMap fun o => o.2.blks) = [b6, ms] := by simp [LO.blks, mapO, nub]
 have hen := enter_objs (N := Tryz.f129.ntmps) (l := [.x mv, .s (.c (.e (hs b2) 1 0 0)), .s (.c (.e (hs b8) 1 0 0)), .s (.c (.p 0 b6 0))]) (hp := [(0, LO.box b6 23 [.x (.slice none 0 0)]), (1, mapO vI vB ms ([] : List (Int × Bool)))]) (w := w) hobj (by rw [hS]; simp [hne])
 rw [hS] at hen
 refine calls_atB [.x mv, .s (.c (.e (hs b2) 1 0 0)), .s (.c (.e (hs b8) 1 0 0)), .s (.c (.p 0 b6 0))] [(0, LO.box b6 23 [.x (.slice none 0 0)]), (1, mapO vI vB ms ([] : List (Int × Bool)))] [b6, ms] Tryz.func129 rfl rfl (Nat.le_of_ble_eq_true rfl) (WF.objs hen ⟨⟨_, _, _, rfl⟩, ⟨_, _, _, rfl⟩, ⟨_, _, rfl⟩, trivial⟩ trivial) hen fun B hB => ?_
 repeat refine zq ?_
 refine zr ?_; conv => whnf
 refine ⟨[.x (ptr h)], fun w' hw => h2.load (n := 1) (i := 0) (off := 0) hw.fr rfl rfl, ?_⟩; conv => whnf
 refine ansR_call b11 (rd1 (nopI _)) (fun w' hw => sorted_r h rb N hN mv w' ((H.fr hw.fr).nilS) ((hmv2.fr hw.fr).avoid fun b hb => by cases hb)) ?_
 intro vs; conv => whnf
 refine ⟨rfl, ?_⟩; conv => whnf
 repeat refine zq ?_
 refine At.block ?_
 refine At.loopH (fun p' : Nat × Value => { N := Tryz.f129.ntmps, sl := [(2, some (.s (.c (.e (hs b8) 1 0 0)))), (3, some (.s (.c (.p 0 b6 0)))), (9, some (.s (.c (.o 2 vs)))), (10, some (.i ((sortedB N).length))), (11, some (.i p'.1))], gl := [], hp := [(3, .row p'.2 3 1 (((sortedB N).take p'.1).map encI)), (2, .row vs 3 1 ((sortedB N).map encI)), (0, .box b6 23 [.o 3 p'.2]), (1, mapO vI vB ms (((sortedB N).take p'.1).map fun x => (x, true)))], S := [b6, ms], ws := w }) (fun p' : Nat × Value => p'.1 ≤ (sortedB N).length) (fun p' : Nat × Value => (sortedB N).length - p'.1)
  (fun w' hw => ⟨(0, .slice none 0 0), Nat.zero_le _, Le.of rfl rfl ⟨rfl, rfl, rfl, congrArg (Value.int .i64) (by simp), rfl, trivial⟩, hw.nilBox [_] [_] rfl rfl rfl rfl rfl, ⟨⟨_, _, _, rfl⟩, ⟨_, _, rfl⟩, ⟨_, _, _, rfl⟩, trivial⟩, ⟨(nopI _).okH, (nopI _).okH, fun c hc => by simp at hc; rcases hc with rfl <;> first | exact ⟨_, _, _, rfl⟩ | exact ⟨_, _, rfl⟩ | trivial, trivial⟩⟩) ?_
 rintro ⟨k, vo⟩ hk
 simp only at hk ⊢
 repeat refine zq ?_
 refine zr ?_; conv => whnf
 repeat refine zq ?_
 refine At.cond rfl (fun hc => At.skip ?_) (fun hc => At.exit ?_)
 ·have hlt : k < (sortedB N).length := by have := of_decide_eq_true hc; omega
  obtain ⟨x, hx⟩ : ∃ x, (sortedB N)[k]? = some x := ⟨_, List.getElem?_eq_getElem hlt⟩
  have hlt : k < (sortedB N).length := by have := of_decide_eq_true hc; omega
  have hput := setT_put hsd hx
  have hnone := setT_none (nodup_get hsd hx)
  repeat refine zq ?_
  refine At.block ?_
  repeat refine zq ?_
  refine zr ?_; conv => whnf
  refine ⟨rfl, ?_⟩; conv => whnf
  refine ⟨by omega, ?_⟩; conv => whnf
  refine ⟨by (try simp only [List.length_map]); omega, ?_⟩; conv => whnf
  refine ⟨encI x, ⟨rfl, rfl, by omega, by rw [Int.toNat_natCast, List.getElem?_map, hx]; rfl⟩, ?_⟩; conv => whnf
  repeat refine zq ?_
  refine zr ?_; conv => whnf
  refine ⟨[.x (.map (some ms))], fun w' hw => h8.load (n := 1) (i := 0) (off := 0) hw.fr rfl rfl, ?_⟩; conv => whnf
  refine ⟨.b ((alook (((sortedB N).take k).map fun x => (x, true)) x).getD false), gimp_of (rawQ_b rfl rfl (fun w' hw => mapO_at (hw.objs _ (look_mem (s := 1) rfl)))), ?_⟩; conv => whnf
  rw [hnone]
  repeat refine zq ?_
  refine At.cond (t := true) rfl (fun _ => ?_) (fun hq => by cases hq)
  repeat refine zq ?_
  refine zr ?_; conv => whnf
  refine ⟨[.x (.map (some ms))], fun w' hw => h8.load (n := 1) (i := 0) (off := 0) hw.fr rfl rfl, ?_⟩; conv => whnf
  refine rawE_update (id := 1) (key := x) (v := true) kl3 ⟨x, rfl⟩ (fun p _ => ⟨p.1, rfl⟩) vI_inj um92 rfl rfl rfl rfl rfl rfl ?_; conv => whnf
  repeat refine zq ?_
  refine zr ?_; conv => whnf
  intro v4; conv => whnf
  refine ⟨rfl, ?_⟩; conv => whnf
  refine ⟨⟨rfl, by simp; omega⟩, ?_⟩; conv => whnf
  intro v5; conv => whnf
  repeat refine zq ?_
  refine zr ?_; conv => whnf
  refine ⟨⟨by omega, by omega⟩, ?_⟩; conv => whnf
  refine At.nextH fun w' hw => ⟨(k + 1, v5), by simp only; omega, by simp only; omega, Le.of rfl rfl ⟨rfl, rfl, rfl, rfl, rfl, trivial⟩, hw.keep [3, 2, 0, 1] (by simp only [hput, take_snoc hx, List.map_append]; rfl) rfl rfl, ⟨⟨_, _, _, rfl⟩, ⟨_, _, rfl⟩, ⟨_, _, _, rfl⟩, trivial⟩, ⟨(nopI _).okH, (nopI _).okH, fun c hc => by simp at hc; rcases hc with rfl <;> first | exact ⟨_, _, _, rfl⟩ | exact ⟨_, _, rfl⟩ | trivial, trivial⟩⟩
 ·have hge : k = (sortedB N).length := by have := of_decide_eq_false hc; omega
  subst hge
  rw [List.take_length]
  refine At.doneN tab_ok hB _ rfl fun w' hw => ?_
  refine ⟨vo, rfl, hw.box (id := 0) rfl, hw.row (id := 3) rfl, hw.fr, fun b hb => ?_, fun hb => hw.apart (i := 3) (j := 0) rfl rfl (by decide) b6 hb (by simp [LO.blks])⟩
  rcases hw.fresh (id := 3) rfl b hb with hb' | hb'
  ·exfalso
   simp only [List.mem_cons, List.not_mem_nil, or_false] at hb'
   rcases hb' with rfl | rfl
   ·exact hw.apart (i := 3) (j := 0) rfl rfl (by decide) _ hb (by simp [LO.blks])
   ·exact hw.apart (i := 3) (j := 1) rfl rfl (by decide) _ hb (mem_nub.2 (by simp))
  ·exact hb'
theorem sequence_r (h rb : Nat) (N : List Nd) (hN : NOk N) (hm : ∀ x ∈ marksB N, (entB N x).kind ≠ 18 ∧ (entB N x).kind ≠ 19 ∧ (entB N x).kind ≠ 20) (ks : List Int) (kv : Value) (liars seed : Int) (w : World) (H : HR [] w h rb N) (hs' : SlOf intT [] w kv ks) (hkl : ks.length ≤ 1000000) :
  AnsR Tryz.prog 80 [ptr h, vSt kv liars seed] [.row 3 1 ((sortedB N).map encI), .p (.c (.x (.slice none 0 0)))] w := by
 have hk := hs'.one
 have hNl := hN.len
 have hml := marksB_len N
 refine calls_e [.x (ptr h), .s (.agg (encSt kv liars seed))] Tryz.func80 rfl rfl (Nat.le_of_ble_eq_true rfl) trivial fun B hB => ?_
 repeat refine zq ?_
 refine zr ?_; conv => whnf
 refine ⟨rfl, ?_⟩; conv => whnf
 intro b2; conv => whnf
 refine ⟨hk, ?_⟩; conv => whnf
 intro b3; conv => whnf
 repeat refine zq ?_
 refine zr ?_; conv => whnf
 intro b6; conv => whnf
 repeat refine zq ?_
 refine zr ?_; conv => whnf
 refine rawE_make vI vB ?_
 intro ms; conv => whnf
 intro b8; conv => whnf
 refine ⟨rfl, ?_⟩; conv => whnf
 repeat refine zq ?_
 refine zr ?_; conv => whnf
 repeat refine zq ?_
 refine zr ?_; conv => whnf
 refine ans_call (r := .x (.slice none 0 0)) b130 rfl (fun w' hw => days_nil h rb N hN hm ks kv liars seed w' (H.ext hw.fr) (hs'.ext hw.fr) hkl) ?_; conv => whnf
 refine ⟨nilSl, ?_⟩; conv => whnf
 repeat refine zq ?_
 refine At.block ?_
 refine At.loopH (fun u : Nat => { N := Tryz.f80.ntmps, sl := [(2, some (.s (.c (.p 0 b2 0)))), (6, some (.s (.c (.p 2 b6 0)))), (7, some (.x ((.slice none 0 0)))), (9, some (.x ((.func (.func 129) #[] #[ptr b2, ptr b8, ptr b6])))), (17, some (.i 0)), (18, some (.i 0))], gl := [], hp := [(4, .box b8 92 [.x (.map (some ms))]), (3, mapO vI vB ms ([] : List (Int × Bool))), (2, .box b6 23 [.x (.slice none 0 0)]), (0, .box b2 27 [.x (ptr h)])], S := [], ws := w }) (fun u : Nat => True) (fun u : Nat => 0)
  (fun w' hw => ⟨0, trivial, Le.of rfl rfl ⟨rfl, rfl, rfl, rfl, rfl, rfl, trivial⟩, hw.keep [4, 3, 2, 0] rfl rfl rfl, ⟨⟨_, _, rfl⟩, ⟨_, _, rfl⟩, trivial⟩, trivial⟩) ?_
 intro u _
 repeat refine zq ?_
 refine zr ?_; conv => whnf
 repeat refine zq ?_
 refine At.cond rfl (fun hq => ?_) (fun _ => At.exit ?_)
 ·exact absurd (of_decide_eq_true hq) (by decide)
 repeat refine zq ?_
 refine zr ?_; conv => whnf
 refine ansR_call b12 (rd1 (nopI _)) (fun w' hw => marks_r h rb N hN w' (H.ext hw.fr)) ?_
 intro vm; conv => whnf
 refine two_callF (i1 := 2) (i2 := 3) b129 rfl rfl (by decide) (fun r o1 o2 => r = .tup [] ∧ ∃ v, o1 = .box b6 23 [.x v] ∧ o2 = .ab (ms :: blkOf v) (fun w => (LO.row v 3 1 ((sortedB N).map encI)).holds w)) (fun w' hw => ?_) ?_
 ·have e6 := hw.box (id := 2) rfl
  have e8 := hw.box (id := 4) rfl
  have e2 := hw.box (id := 0) rfl
  have hmp := mapO_at (hw.objs _ (look_mem (s := 3) rfl))
  have n26 : b6 ≠ ms := fun e => hw.apart (i := 2) (j := 3) rfl rfl (by decide) b6 (by simp [LO.blks]) (mem_nub.2 (by simp [e]))
  have n2 : b2 ∉ [b6, ms] := fun hm => by
   simp only [List.mem_cons, List.not_mem_nil, or_false] at hm
   rcases hm with e | e
   ·exact hw.apart (i := 0) (j := 2) rfl rfl (by decide) b2 (by simp [LO.blks]) (by simp [LO.blks, e])
   ·exact hw.apart (i := 0) (j := 3) rfl rfl (by decide) b2 (by simp [LO.blks]) (mem_nub.2 (by simp [e]))
  have n8 : b8 ∉ [b6, ms] := fun hm => by
   simp only [List.mem_cons, List.not_mem_nil, or_false] at hm
   rcases hm with e | e
   ·exact hw.apart (i := 4) (j := 2) rfl rfl (by decide) b8 (by simp [LO.blks]) (by simp [LO.blks, e])
   ·exact hw.apart (i := 4) (j := 3) rfl rfl (by decide) b8 (by simp [LO.blks]) (mem_nub.2 (by simp [e]))
  have nm : ∀ b ∈ blkOf vm, b ∉ [b6, ms] := fun b hb hm => by
   simp only [List.mem_cons, List.not_mem_nil, or_false] at hm
   rcases hm with e | e
   ·exact hw.apart (i := 5) (j := 2) rfl rfl (by decide) b hb (by simp [LO.blks, e])
   ·exact hw.apart (i := 5) (j := 3) rfl rfl (by decide) b hb (mem_nub.2 (by simp [e]))
  have hH : HR [b6, ms] w' h rb N := (hw.liftH H).avoid fun b hb => .inl (by
   simp only [List.mem_cons, List.not_mem_nil, or_false] at hb
   rcases hb with rfl | rfl
   ·exact List.mem_flatMap.2 ⟨_, look_mem (s := 2) rfl, by simp [LO.blks]⟩
   ·exact List.mem_flatMap.2 ⟨_, look_mem (s := 3) rfl, mem_nub.2 (by simp)⟩)
  refine (put_c h rb N hN vm b2 b8 b6 ms w' n26 hH (box_v e2 n2) (box_v e8 n8) e6 hmp (SlOf.of_row (enc := fun n => [.i n]) (hw.row (id := 5) rfl) nm (by omega))).mono ?_
  rintro e w'' ⟨v, he, h6', hrow, hf, hnew, hnv⟩
  refine ⟨.tup [], .box b6 23 [.x v], .ab (ms :: blkOf v) (fun w => (LO.row v 3 1 ((sortedB N).map encI)).holds w), he, ⟨rfl, v, rfl, rfl⟩, h6', ⟨fun b hb => ?_, fun w3 ha => row_agree hrow fun b hb => ha b (List.mem_cons_of_mem _ hb)⟩, hf.mono fun b hb => .inl (by simpa [LO.blks, mapO, nub] using hb), fun b hb => .inl (List.mem_append.2 (.inl hb)), fun b hb => ?_, fun b hb hb2 => ?_⟩
  ·rcases List.mem_cons.1 hb with rfl | hb
   ·exact Nat.lt_of_lt_of_le (mapAt_lt hmp) hf.size
   ·exact LO.blk_lt hrow b hb
  ·rcases List.mem_cons.1 (mem_nub.1 hb) with rfl | hb
   ·exact .inl (by simp [LO.blks, mapO, nub])
   ·exact .inr (hnew b hb)
  ·have : b = b6 := by simpa [LO.blks] using hb
   subst this
   rcases List.mem_cons.1 (mem_nub.1 hb2) with e | hb2
   ·exact n26 e
   ·exact hnv hb2
 ·rintro r o1 o2 ⟨rfl, v, rfl, rfl⟩
  refine ⟨⟨stays_box, fun b T cells e => (by unfold mapO at e; cases e), fun c hc => by rw [List.mem_singleton.1 hc]; trivial, trivial, fun v hv => by cases hv⟩, ?_⟩; conv => whnf
  repeat refine zq ?_
  refine zr ?_; conv => whnf
  repeat refine zq ?_
  refine At.ret (At.doneB tab_ok hB _ rfl fun w' hw => ?_)
  have ho : (LO.ab (ms :: blkOf v) (fun w => (LO.row v 3 1 ((sortedB N).map encI)).holds w)).holds w' := hw.objs _ (look_mem (s := 3) rfl)
  refine ⟨[v], rfl, ⟨ho.2 w' fun _ _ => rfl, fun b hb => ?_, fun u hu => (by cases hu), rfl⟩, hw.fr⟩
  exact (hw.fresh (id := 3) rfl b (mem_nub.2 (List.mem_cons_of_mem _ hb))).elim (fun h => by cases h) _root_.id
end Go.Proofs.YtdigebokbhmfaaaGreatDoor.Ap
namespace Go.Proofs.YtdigebokbhmfaaaGreatDoor.Ap
open Go.Vc Rt Go.Bs
set_option maxHeartbeats 1000000
theorem box_i {w : World} {b : Nat} {T : TypeId} {S : List Nat} {x : Int} (hb : w.heap[b]? = some (.cells #[vI x] T (0, 0))) (hS : b ∉ S) : SlOf intT S w (hs b) [x] := by
 have hrow : (LO.row (hs b) T 1 ([x].map encI)).holds w := ⟨⟨rfl, .inr ⟨b, 0, 1, _, rfl, hb, Nat.le_refl 1, by unfold maxLen; omega, by simp [dens, encI], rfl⟩⟩, fun l hl => by rw [List.mem_singleton.1 hl]; rfl⟩
 exact SlOf.of_row (enc := fun n => [.i n]) hrow (fun b' hb' => by simp only [hs, blkOf, List.mem_singleton] at hb'; rw [hb']; exact hS) (by simp)
theorem lostq_c (h rb : Nat) (N : List Nd) (hN : NOk N) (g m : Int) (b15 b3 : Nat) (w : World) (H : HR [] w h rb N) (e15 : SlOf intT [] w (hs b15) [m]) (e3 : SlOf vT1 [] w (hs b3) [ptr h]) :
  Ans Tryz.prog 37 [vI g, ptr b15, ptr b3] (.b (decide (g = m) || beforeB N g m)) w := by
 refine calls_e [.i g, .s (.c (.e (hs b15) 1 0 0)), .s (.c (.e (hs b3) 1 0 0))] Tryz.func37 rfl rfl (Nat.le_of_ble_eq_true rfl) ⟨⟨_, _, _, rfl⟩, ⟨_, _, _, rfl⟩, trivial⟩ fun B hB => ?_
 repeat refine zq ?_
 refine zr ?_; conv => whnf
 repeat refine zq ?_
 refine zr ?_; conv => whnf
 refine ⟨[.i m], fun w' hw => e15.load (n := 1) (i := 0) (off := 0) hw.fr rfl rfl, ?_⟩; conv => whnf
 refine ⟨[.x (ptr h)], by simp only [gimp]; intro _ w' hw; exact e3.load (n := 1) (i := 0) (off := 0) hw.fr rfl rfl, ?_⟩; conv => whnf
 refine ⟨[.i m], by simp only [gimp]; intro _ w' hw; exact e15.load (n := 1) (i := 0) (off := 0) hw.fr rfl rfl, ?_⟩; conv => whnf
 refine ⟨.b (beforeB N g m), gimp_of (ans_quiet b14 (fun w' hw => before_r h rb N hN g m w' (H.ext hw.fr))), ?_⟩; conv => whnf
 repeat refine zq ?_
 refine At.ret (At.doneB tab_ok hB _ rfl fun w' hw => ⟨?_, hw.fr⟩)
 simp only [RV.den, SV.den, CV.den, bor]
def ownT (N : List Nd) (a : Int) (l : List Int) : List Int := l.filter fun m => decide ((entB N m).author = a)
theorem ownT_snoc {N : List Nd} {a : Int} {l : List Int} {k : Nat} {x : Int} (hx : l[k]? = some x) : ownT N a (l.take (k + 1)) = ownT N a (l.take k) ++ if (entB N x).author = a then [x] else [] := by
 unfold ownT; rw [take_snoc hx, List.filter_append, List.filter_cons, List.filter_nil]
 by_cases h : (entB N x).author = a
 ·rw [if_pos h, decide_eq_true h, if_pos rfl]
 ·rw [if_neg h, decide_eq_false h, if_neg (by decide)]
theorem ownT_len {N : List Nd} {a : Int} {l : List Int} {k : Nat} : (ownT N a (l.take k)).length ≤ k := by
 unfold ownT; exact Nat.le_trans (List.length_filter_le _ _) (by rw [List.length_take]; omega)
def keptT (N : List Nd) (a n : Int) (l : List Int) : List Int := l.filter fun m => !lostQ N a n m
theorem keptT_snoc {N : List Nd} {a n : Int} {l : List Int} {k : Nat} {x : Int} (hx : l[k]? = some x) : keptT N a n (l.take (k + 1)) = keptT N a n (l.take k) ++ if lostQ N a n x then [] else [x] := by
 unfold keptT; rw [take_snoc hx, List.filter_append, List.filter_cons, List.filter_nil]
 cases lostQ N a n x <;> rfl
theorem keptT_len {N : List Nd} {a n : Int} {l : List Int} {k : Nat} : (keptT N a n (l.take k)).length ≤ k := by
 unfold keptT; exact Nat.le_trans (List.length_filter_le _ _) (by rw [List.length_take]; omega)
theorem before_h (h rb : Nat) (N : List Nd) (hN : NOk N) (R : List SK) (a n : Int) (w : World) (hG : Gl w) (H : HR [] w h rb N) (hR : RgR [] w rb R) :
  Calls Tryz.prog 9 #[ptr h, vI a, vI n] w (fun e w' => ∃ i : Nat × List Nat, e = .returned (ptr i.1) ∧ (histO i.1 rb i.2 (beforeH R N a n)).holds w' ∧ (∀ b ∈ i.2, w.heap.size ≤ b) ∧ Ext w w') := by
 have hNl := hN.len
 have hml := marksB_len N
 have hsl := sortedB_len N
 refine calls_e [.x (ptr h), .i a, .i n] Tryz.func9 rfl rfl (Nat.le_of_ble_eq_true rfl) trivial fun B hB => ?_
 repeat refine zq ?_
 refine zr ?_; conv => whnf
 refine ⟨rfl, ?_⟩; conv => whnf
 intro b3; conv => whnf
 repeat refine zq ?_
 refine zr ?_; conv => whnf
 repeat refine zq ?_
 refine At.planG tab_ok mixed [(0, .box b3 27 [.x (ptr h)])] (.take 0 (.take 1 (.take 5 (.br 2 (.br 3 (.br 4 (.done) (.nob)) (.nob)) (.nob))))) (by kernel_rfl) (by kernel_rfl) ⟨rfl, trivial⟩ ?_; conv => whnf
 refine ⟨?_, trivial⟩; conv => whnf
 refine ansR_call b12 (rd1 (nopI _)) (fun w' hw => marks_r h rb N hN w' (H.ext hw.fr)) ?_
 intro vm; conv => whnf
 refine ⟨⟨⟨rfl, trivial⟩, fun w' hw => hw.fr⟩, ?_⟩; conv => whnf
 refine ⟨?_, trivial⟩; conv => whnf
 refine ansR_call b11 (rd1 (nopI _)) (fun w' hw => sorted_r h rb N hN vm w' (H.ext hw.fr) (slI _ (hw.row (id := 1) rfl) (by omega))) ?_
 intro vs; conv => whnf
 refine ⟨⟨⟨rfl, trivial⟩, fun w' hw => hw.fr⟩, ?_⟩; conv => whnf
 refine ⟨?_, trivial⟩; conv => whnf
 refine ⟨rfl, ?_⟩; conv => whnf
 refine ⟨⟨⟨rfl, trivial⟩, fun w' hw => hw.fr⟩, ?_⟩; conv => whnf
 repeat refine zq ?_
 refine At.block ?_
 refine At.loopH (fun p' : Nat × Value => { N := Tryz.f9.ntmps, sl := [(1, some (.i a)), (2, some (.i n)), (3, some (.s (.c (.p 0 b3 0)))), (7, some (.s (.c (.o 3 p'.2)))), (8, some (.x ((.slice none 0 0)))), (20, some (.s (.c (.o 2 vs)))), (21, some (.i ((sortedB N).length))), (22, some (.i p'.1))], gl := [], hp := [(3, .row p'.2 3 1 ((ownT N a ((sortedB N).take p'.1)).map encI)), (2, .row vs 3 1 ((sortedB N).map encI)), (0, .box b3 27 [.x (ptr h)])], S := [], ws := w }) (fun p' : Nat × Value => p'.1 ≤ (sortedB N).length) (fun p' : Nat × Value => (sortedB N).length - p'.1)
  (fun w' hw => ⟨(0, .slice none 0 0), Nat.zero_le _, Le.of rfl rfl ⟨rfl, rfl, rfl, rfl, rfl, rfl, congrArg (Value.int .i64) (by simp), rfl, trivial⟩, Holds.nilK hw [2, 0] rfl rfl rfl, ⟨⟨_, _, rfl⟩, ⟨_, _, _, rfl⟩, ⟨_, _, _, rfl⟩, trivial⟩, ⟨(nopI _).okH, (nopI _).okH, trivial⟩⟩) ?_
 rintro ⟨k, vo⟩ hk
 simp only at hk ⊢
 repeat refine zq ?_
 refine zr ?_; conv => whnf
 repeat refine zq ?_
 refine At.cond rfl (fun hc => At.skip ?_) (fun hc => At.exit ?_)
 ·have hlt : k < (sortedB N).length := by have := of_decide_eq_true hc; omega
  obtain ⟨x, hx⟩ : ∃ x, (sortedB N)[k]? = some x := ⟨_, List.getElem?_eq_getElem hlt⟩
  have hlt : k < (sortedB N).length := by have := of_decide_eq_true hc; omega
  have hsn := ownT_snoc (N := N) (a := a) hx
  have hol := ownT_len (N := N) (a := a) (l := sortedB N) (k := k)
  repeat refine zq ?_
  refine At.block ?_
  repeat refine zq ?_
  refine zr ?_; conv => whnf
  refine ⟨rfl, ?_⟩; conv => whnf
  refine ⟨by omega, ?_⟩; conv => whnf
  refine ⟨by (try simp only [List.length_map]); omega, ?_⟩; conv => whnf
  refine ⟨encI x, ⟨rfl, rfl, by omega, by rw [Int.toNat_natCast, List.getElem?_map, hx]; rfl⟩, ?_⟩; conv => whnf
  repeat refine zq ?_
  refine zr ?_; conv => whnf
  refine entry_call (h := h) (rb := rb) (N := N) (mk := x) hN (fun w' hw => H.ext hw.fr) ?_
  intro k4 y5 s6; conv => whnf
  intro b11; conv => whnf
  repeat refine zq ?_
  refine zr ?_; conv => whnf
  repeat refine zq ?_
  refine At.cond rfl (fun hq => ?_) (fun hq => At.skip ?_)
  ·have hqa : (entB N x).author = a := of_decide_eq_true hq
   rw [if_pos hqa] at hsn
   repeat refine zq ?_
   refine zr ?_; conv => whnf
   intro v8; conv => whnf
   refine ⟨rfl, ?_⟩; conv => whnf
   refine ⟨⟨rfl, by simp; omega⟩, ?_⟩; conv => whnf
   intro v9; conv => whnf
   repeat refine zq ?_
   refine zr ?_; conv => whnf
   refine ⟨⟨by omega, by omega⟩, ?_⟩; conv => whnf
   refine At.nextH fun w' hw => ⟨(k + 1, v9), by simp only; omega, by simp only; omega, Le.of rfl rfl ⟨rfl, rfl, rfl, rfl, rfl, rfl, rfl, rfl, trivial⟩, hw.keep [3, 2, 0] ?_ rfl rfl, ⟨⟨_, _, rfl⟩, ⟨_, _, _, rfl⟩, ⟨_, _, _, rfl⟩, trivial⟩, ⟨(nopI _).okH, (nopI _).okH, trivial⟩⟩
   show [(3, LO.row v9 3 1 _), (2, LO.row vs 3 1 _), (0, LO.box _ _ _)] = [(3, LO.row v9 3 1 _), (2, LO.row vs 3 1 _), (0, LO.box _ _ _)]
   rw [hsn, List.map_append]
   rfl
  ·have hqa : ¬ (entB N x).author = a := of_decide_eq_false hq
   rw [if_neg hqa, List.append_nil] at hsn
   repeat refine zq ?_
   refine zr ?_; conv => whnf
   refine ⟨⟨by omega, by omega⟩, ?_⟩; conv => whnf
   refine At.nextH fun w' hw => ⟨(k + 1, vo), by simp only; omega, by simp only; omega, Le.of rfl rfl ⟨rfl, rfl, rfl, rfl, rfl, rfl, rfl, rfl, trivial⟩, hw.keep [3, 2, 0] (by simp only [hsn]; rfl) rfl rfl, ⟨⟨_, _, rfl⟩, ⟨_, _, _, rfl⟩, ⟨_, _, _, rfl⟩, trivial⟩, ⟨(nopI _).okH, (nopI _).okH, trivial⟩⟩
 ·have hge : k = (sortedB N).length := by have := of_decide_eq_false hc; omega
  subst hge
  rw [List.take_length]
  have hoe : ownT N a (sortedB N) = ownOf N a := rfl
  have hol : (ownOf N a).length ≤ (sortedB N).length := List.length_filter_le _ _
  rw [hoe]
  have hcut : (((ownOf N a).length : Int) - min (max n 0) ((ownOf N a).length : Int)) = (cutO N a n : Int) := by unfold cutO; omega
  have hcl : cutO N a n ≤ (ownOf N a).length := by unfold cutO; omega
  repeat refine zq ?_
  refine zr ?_; conv => whnf
  refine ⟨rfl, ?_⟩; conv => whnf
  refine ⟨rfl, ?_⟩; conv => whnf
  refine ⟨by simp only [List.length_map]; exact ⟨by omega, by omega⟩, ?_⟩; conv => whnf
  refine ⟨rfl, ?_⟩; conv => whnf
  refine ⟨by simp only [List.length_map]; omega, ?_⟩; conv => whnf
  refine ⟨by simp only [List.length_map]; omega, ?_⟩; conv => whnf
  refine ⟨.inl (by simp only [List.length_map]; omega), ?_⟩; conv => whnf
  repeat refine zq ?_
  refine zr ?_; conv => whnf
  refine ansR_call b12 (rd1 (nopI _)) (fun w' hw => marks_r h rb N hN w' (H.ext hw.fr)) ?_
  intro vk; conv => whnf
  refine ⟨rfl, ?_⟩; conv => whnf
  repeat refine zq ?_
  refine At.block ?_
  refine At.loopH (fun p' : Nat × Value => { N := Tryz.f9.ntmps, sl := [(3, some (.s (.c (.p 0 b3 0)))), (8, some (.s (.c (.o 5 p'.2)))), (13, some (.x ((subV vo 1 (cutO N a n) (ownOf N a).length)))), (52, some (.s (.c (.o 4 vk)))), (53, some (.i ((marksB N).length))), (54, some (.i p'.1))], gl := [], hp := [(5, .row p'.2 3 1 ((keptT N a n ((marksB N).take p'.1)).map encI)), (4, .row vk 3 1 ((marksB N).map encI)), (3, .row vo 3 1 ((ownOf N a).map encI)), (0, .box b3 27 [.x (ptr h)])], S := [], ws := w }) (fun p' : Nat × Value => p'.1 ≤ (marksB N).length) (fun p' : Nat × Value => (marksB N).length - p'.1)
   (fun w' hw => ⟨(0, .slice none 0 0), Nat.zero_le _, Le.of rfl rfl ⟨rfl, rfl, by simp only [List.length_map, hcut]; rfl, rfl, congrArg (Value.int .i64) (by simp), rfl, trivial⟩, Holds.nilK hw [4, 3, 0] rfl rfl rfl, ⟨⟨_, _, rfl⟩, ⟨_, _, _, rfl⟩, ⟨_, _, _, rfl⟩, trivial⟩, ⟨(nopI _).okH, (nopI _).okH, (nopI _).okH, trivial⟩⟩) ?_
  rintro ⟨k, vl⟩ hk
  simp only at hk ⊢
  repeat refine zq ?_
  refine zr ?_; conv => whnf
  repeat refine zq ?_
  refine At.cond rfl (fun hc => At.skip ?_) (fun hc => At.exit ?_)
  ·have hlt : k < (marksB N).length := by have := of_decide_eq_true hc; omega
   obtain ⟨x, hx⟩ : ∃ x, (marksB N)[k]? = some x := ⟨_, List.getElem?_eq_getElem hlt⟩
   have hlt : k < (marksB N).length := by have := of_decide_eq_true hc; omega
   have hsn := keptT_snoc (N := N) (a := a) (n := n) hx
   have hkl := keptT_len (N := N) (a := a) (n := n) (l := marksB N) (k := k)
   repeat refine zq ?_
   refine At.block ?_
   repeat refine zq ?_
   refine zr ?_; conv => whnf
   refine ⟨rfl, ?_⟩; conv => whnf
   refine ⟨by omega, ?_⟩; conv => whnf
   refine ⟨by (try simp only [List.length_map]); omega, ?_⟩; conv => whnf
   refine ⟨encI x, ⟨rfl, rfl, by omega, by rw [Int.toNat_natCast, List.getElem?_map, hx]; rfl⟩, ?_⟩; conv => whnf
   intro b15; conv => whnf
   repeat refine zq ?_
   refine zr ?_; conv => whnf
   repeat refine zq ?_
   refine zr ?_; conv => whnf
   refine ans_call (r := .b (lostQ N a n x)) b38 rfl (fun w' hw => containsF_c (goneB N a n) [] _ w' (by
    have hp := SlOf.part (slI (ownOf N a) (hw.row (id := 3) rfl) (by omega)) (lo := (cutO N a n : Int)) (hi := ((ownOf N a).length : Int)) (by omega) (by omega) (by omega)
    rw [Int.toNat_natCast, Int.toNat_natCast, List.take_length] at hp
    exact hp) 37 #[ptr b15, ptr b3] (fun g => decide (g = x) || beforeB N g x) b37 (fun g hg w'' hx' => lostq_c h rb N hN g x b15 b3 w'' (H.ext (hw.fr.trans hx')) ((box_i (T := 3) (hw.box (id := 6) rfl) nilS).ext hx') ((box_v (T := 27) (hw.box (id := 0) rfl) nilS).ext hx'))) ?_
   conv => whnf
   repeat refine zq ?_
   refine At.cond rfl (fun hq => ?_) (fun hq => At.skip ?_)
   ·have hql : lostQ N a n x = false := by simpa using hq
    rw [hql, if_neg (by decide)] at hsn
    repeat refine zq ?_
    refine zr ?_; conv => whnf
    intro v8; conv => whnf
    refine ⟨rfl, ?_⟩; conv => whnf
    refine ⟨⟨rfl, by simp; omega⟩, ?_⟩; conv => whnf
    intro v9; conv => whnf
    repeat refine zq ?_
    refine zr ?_; conv => whnf
    refine ⟨⟨by omega, by omega⟩, ?_⟩; conv => whnf
    refine At.nextH fun w' hw => ⟨(k + 1, v9), by simp only; omega, by simp only; omega, Le.of rfl rfl ⟨rfl, rfl, rfl, rfl, rfl, rfl, trivial⟩, hw.keep [5, 4, 3, 0] ?_ rfl rfl, ⟨⟨_, _, rfl⟩, ⟨_, _, _, rfl⟩, ⟨_, _, _, rfl⟩, trivial⟩, ⟨(nopI _).okH, (nopI _).okH, (nopI _).okH, trivial⟩⟩
    show [(5, LO.row v9 3 1 _), (4, LO.row vk 3 1 _), (3, LO.row vo 3 1 _), (0, LO.box _ _ _)] = [(5, LO.row v9 3 1 _), (4, LO.row vk 3 1 _), (3, LO.row vo 3 1 _), (0, LO.box _ _ _)]
    rw [hsn, List.map_append]
    rfl
   ·have hql : lostQ N a n x = true := by simpa using hq
    rw [hql, if_pos rfl, List.append_nil] at hsn
    repeat refine zq ?_
    refine zr ?_; conv => whnf
    refine ⟨⟨by omega, by omega⟩, ?_⟩; conv => whnf
    refine At.nextH fun w' hw => ⟨(k + 1, vl), by simp only; omega, by simp only; omega, Le.of rfl rfl ⟨rfl, rfl, rfl, rfl, rfl, rfl, trivial⟩, hw.keep [5, 4, 3, 0] (by simp only [hsn]; rfl) rfl rfl, ⟨⟨_, _, rfl⟩, ⟨_, _, _, rfl⟩, ⟨_, _, _, rfl⟩, trivial⟩, ⟨(nopI _).okH, (nopI _).okH, (nopI _).okH, trivial⟩⟩
  ·have hge : k = (marksB N).length := by have := of_decide_eq_false hc; omega
   subst hge
   rw [List.take_length]
   have hke : keptT N a n (marksB N) = keptB N a n := rfl
   have hkl : (keptB N a n).length ≤ (marksB N).length := List.length_filter_le _ _
   rw [hke]
   repeat refine zq ?_
   refine zr ?_; conv => whnf
   refine newAb_call (fun i : Nat × List Nat => .x (ptr i.1)) (fun i => i.2) (fun i => HistQ i.1 rb i.2 (beforeH R N a n)) b8 (fun _ => rfl) (fun w' hw => restrict_r h rb N hN R (keptB N a n) vl w' (hG.ext hw.fr) (H.ext hw.fr) (hR.fr hw.fr) (slI _ (hw.row (id := 5) rfl) (by omega)) (by omega)) ?_
   rintro ⟨h2, B2⟩
   conv => whnf
   repeat refine zq ?_
   refine At.ret (At.doneB tab_ok hB _ rfl fun w' hw => ⟨(h2, B2), rfl, hw.objs _ (look_mem (s := 6) rfl), fun b hb => (hw.fresh (id := 6) rfl b (mem_nub.2 hb)).elim (fun h => by cases h) _root_.id, hw.fr⟩)
end Go.Proofs.YtdigebokbhmfaaaGreatDoor.Ap
