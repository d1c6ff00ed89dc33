/- Texts that the law leans on. -/
import Derived.Test.YtgpgbiklefkjjaaGreatDoorX29
import Derived.Scope
import Derived.Shelf.SlIterI.Nil
import Derived.Shelf.SortM.Plain
import Derived.Shelf.SortM.SortNone
import Derived.Ground.GgzProg
import Derived.Ground.SlgmProg
import Derived.Test.YtgpgbiklefkjjaaGreatDoorProg
set_option linter.unusedVariables false
set_option linter.unusedSimpArgs false
namespace Go.Proofs.YtgpgbiklefkjjaaGreatDoor
open Go.Vc Rt Go.Bs
set_option maxHeartbeats 1000000
theorem At.scope {P : Program} {Q : Exit → Act → World → Prop} {c : Code} {st : St} (h : At st (c.wp P (Exit.noGoto Q))) : At st ((Code.scope c).wp P Q) := ⟨fun hwf a w hr hw => wp_scope_straight (h.out hwf a w hr hw)⟩
theorem At.label {P : Program} {Q : Exit → Act → World → Prop} {l : Nat} {st : St} (h : At st (Q .normal)) : At st ((Code.label l).wp P Q) := ⟨fun hwf a w hr hw => wp_label (h.out hwf a w hr hw)⟩
def vT1 : Ty Value := flat 1 (fun v => [.x v]) (fun _ => rfl)
theorem box_v {w : World} {b : Nat} {T : TypeId} {S : List Nat} {v : Value} (hb : w.heap[b]? = some (.cells #[v] T (0, 0))) (hS : b ∉ S) : SlOf vT1 S w (hs b) [v] := by
 have hrow : (LO.row (hs b) T 1 ([v].map fun v => [CV.x v])).holds w := ⟨⟨rfl, .inr ⟨b, 0, 1, _, rfl, hb, Nat.le_refl 1, by unfold maxLen; omega, by simp, rfl⟩⟩, fun l hl => by rw [List.mem_singleton.1 hl]; rfl⟩
 exact SlOf.of_row (enc := fun v => [.x v]) hrow (fun b' hb' => by simp only [hs, blkOf, List.mem_singleton] at hb'; rw [hb']; exact hS) (by simp)
theorem box_i {w : World} {b : Nat} {T : TypeId} {S : List Nat} {n : Int} (hb : w.heap[b]? = some (.cells #[.int .i64 n] T (0, 0))) (hS : b ∉ S) : SlOf intT S w (hs b) [n] := by
 have hrow : (LO.row (hs b) T 1 ([n].map fun n => [CV.i n])).holds w := ⟨⟨rfl, .inr ⟨b, 0, 1, _, rfl, hb, Nat.le_refl 1, by unfold maxLen; omega, by simp, rfl⟩⟩, fun l hl => by rw [List.mem_singleton.1 hl]; rfl⟩
 exact SlOf.of_row (enc := fun n => [.i n]) hrow (fun b' hb' => by simp only [hs, blkOf, List.mem_singleton] at hb'; rw [hb']; exact hS) (by simp)
def knowsB (K : List (List Int)) (m p : Int) : Bool := hasI (K.getD p.toNat []) m
theorem ask1_c (K : List (List Int)) (kv : Value) (b2 b12 : Nat) (m p : Int) (w : World) (hK : SlOf (slT intT) [] w kv K) (hb2 : SlOf vT1 [] w (hs b2) [kv]) (hb12 : SlOf intT [] w (hs b12) [m]) (hp0 : 0 ≤ p) (hp1 : p < K.length) : Ans Tryz.prog 23 [vI p, ptr b2, ptr b12] (.b (knowsB K m p)) w := by
 have hln := hK.len
 obtain ⟨x, hx⟩ : ∃ x, K[p.toNat]? = some x := ⟨_, List.getElem?_eq_getElem (by omega)⟩
 obtain ⟨_, ⟨u, rfl, hu⟩, hc2⟩ := hK.at hx
 have hpp : ((p.toNat : Nat) : Int) = p := by omega
 rw [hpp] at hc2
 refine calls_e [.i p, .s (.c (.e (hs b2) 1 0 0)), .s (.c (.e (hs b12) 1 0 0))] Tryz.func23 rfl rfl (Nat.le_of_ble_eq_true rfl) ⟨⟨_, _, _, rfl⟩, ⟨_, _, _, rfl⟩, trivial⟩ fun B hB => ?_
 repeat refine zq ?_
 refine zr ?_; conv => whnf
 repeat refine zq ?_
 refine At.planG tab_ok mixed [] (.take 0 (.take 1 (.take 2 (.take 3 (.take 4 (.br 5 (.take 6 (.done)) (.nob))))))) (by kernel_rfl) (by kernel_rfl) trivial ?_; conv => whnf
 refine ⟨[.x kv], fun w' hw => hb2.load (n := 1) (i := 0) (off := 0) hw rfl rfl, ?_⟩; conv => whnf
 refine ⟨by omega, ?_⟩; conv => whnf
 refine ⟨by omega, ?_⟩; conv => whnf
 refine ⟨[.x u], fun w' hw => hc2 w' hw, ?_⟩; conv => whnf
 refine ⟨[.i m], fun w' hw => hb12.load (n := 1) (i := 0) (off := 0) hw rfl rfl, ?_⟩; conv => whnf
 refine ⟨?_, trivial⟩; conv => whnf
 refine ans_call b24 rfl (fun w' hw => contains_c x m [] u w' (hu.fr hw.fr)) ?_; conv => whnf
 refine ⟨⟨trivial, fun w' hw => hw.fr⟩, ?_⟩; conv => whnf
 repeat refine zq ?_
 refine At.ret (At.doneB tab_ok hB _ rfl fun w' hw => ⟨by simp only [knowsB, List.getD_eq_getElem?_getD, hx, Option.getD_some], hw.fr⟩)
def bitsTo (s k : Nat) : List Int := ((List.range k).filter fun i => s.testBit i).map fun i : Nat => (i : Int)
theorem bitsTo_snoc (s k : Nat) : bitsTo s (k + 1) = bitsTo s k ++ if s.testBit k then [(k : Int)] else [] := by
 unfold bitsTo; rw [List.range_succ, List.filter_append, List.map_append]
 congr 1
 cases h : s.testBit k <;> simp [h]
theorem bitsTo_len (s k : Nat) : (bitsTo s k).length ≤ k := by
 unfold bitsTo; rw [List.length_map]
 exact Nat.le_trans (List.length_filter_le _ _) (Nat.le_of_eq List.length_range)
theorem bitsTo_mem {s k : Nat} {p : Int} (h : p ∈ bitsTo s k) : 0 ≤ p ∧ p < k := by
 unfold bitsTo at h
 obtain ⟨i, hi, rfl⟩ := List.mem_map.1 h
 have := List.mem_range.1 (List.mem_filter.1 hi).1
 omega
def goodB (K : List (List Int)) (marks l : List Int) : Bool := marks.all fun m => l.any (knowsB K m)
def askS (K : List (List Int)) (marks : List Int) (q : List Int × Bool) (s : Nat) : List Int × Bool :=
 if q.2 && decide (q.1.length < popN s) then q else
 if !goodB K marks (bitsTo s K.length) then q else
 if (!q.2 || decide ((bitsTo s K.length).length < q.1.length)) || decide (cmpLI (bitsTo s K.length) q.1 < 0) then (bitsTo s K.length, true) else q
def askT (K : List (List Int)) (marks : List Int) : Nat → List Int × Bool
 | 0 => ([], false)
 | s + 1 => askS K marks (askT K marks s) s
def askB (K : List (List Int)) (marks : List Int) : List Int × Bool := if 12 < K.length then ([], false) else askT K marks (2 ^ K.length)
theorem askT_len (K : List (List Int)) (marks : List Int) : ∀ s, (askT K marks s).1.length ≤ K.length
 | 0 => by simp [askT]
 | s + 1 => by
  have ih := askT_len K marks s
  have hb := bitsTo_len s K.length
  unfold askT askS
  split
  ·exact ih
  ·split
   ·exact ih
   ·split
    ·exact hb
    ·exact ih
theorem ask_c (K : List (List Int)) (marks : List Int) (kv mv : Value) (w : World) (hK : SlOf (slT intT) [] w kv K) (hm : SlOf intT [] w mv marks) (hml : marks.length ≤ 1000000) :
  AnsR Tryz.prog 6 [kv, mv] [.row 3 1 ((askB K marks).1.map encI), .p (.c (.b (askB K marks).2))] w := by
 have hkn := hK.len
 have hmn := hm.len
 refine calls_plainB [.x kv, .x mv] Tryz.func6 rfl rfl (Nat.le_of_ble_eq_true rfl) rfl fun B hB => ?_
 repeat refine zq ?_
 refine zr ?_; conv => whnf
 refine ⟨hK.one, ?_⟩; conv => whnf
 intro b2; conv => whnf
 repeat refine zq ?_
 refine At.scope ?_
 repeat refine zq ?_
 refine zr ?_; conv => whnf
 refine ⟨hK.sl, ?_⟩; conv => whnf
 repeat refine zq ?_
 refine At.cond rfl (fun hq => ?_) (fun hq => At.skip ?_)
 ·have hbig : 12 < K.length := by have := of_decide_eq_true hq; omega
  have hres : askB K marks = ([], false) := by unfold askB; rw [if_pos hbig]
  repeat refine zq ?_
  refine zr ?_; conv => whnf
  repeat refine zq ?_
  refine At.ret (At.doneB tab_ok hB _ rfl fun w' hw => ?_)
  rw [hres]
  exact ⟨[.slice none 0 0], rfl, ⟨nil_holds, fun b hb => (by simp [blkOf] at hb), fun u hu => (by cases hu), rfl⟩, hw.fr⟩
 have hn : K.length ≤ 12 := by have := of_decide_eq_false hq; omega
 clear hq
 have hres : askB K marks = askT K marks (2 ^ K.length) := by unfold askB; rw [if_neg (by omega)]
 have h2n : (2 : Nat) ^ K.length ≤ 4096 := Nat.pow_le_pow_right (by decide) hn
 repeat refine zq ?_
 refine zr ?_; conv => whnf
 repeat refine zq ?_
 refine zr ?_; conv => whnf
 repeat refine zq ?_
 refine At.label ?_
 repeat refine zq ?_
 refine zr ?_; conv => whnf
 refine ⟨hK.sl, ?_⟩; conv => whnf
 have hsh : (1 : Int) * 2 ^ (slen kv).toNat = ((2 ^ K.length : Nat) : Int) := by rw [hkn, Int.toNat_natCast, Int.one_mul]; push_cast; rfl
 refine ⟨by omega, ?_⟩; conv => whnf
 refine ⟨by omega, ?_⟩; conv => whnf
 refine ⟨by rw [hsh]; generalize (2 : Nat) ^ K.length = y at h2n ⊢; exact ⟨by omega, by omega⟩, ?_⟩; conv => whnf
 repeat refine zq ?_
 refine At.block ?_
 refine At.loopH (fun p' : Nat × Value => { N := Tryz.f6.ntmps, sl := [(1, some (.x mv)), (2, some (.s (.c (.p 0 b2 0)))), (6, some (.s (.c (.o 1 p'.2)))), (7, some (.b ((askT K marks p'.1).2))), (18, some (.x ((.int .u64 ((2 ^ K.length : Nat) : Int))))), (19, some (.x ((.int .u64 (p'.1 : Int)))))], gl := [], hp := [(1, .row p'.2 3 1 ((askT K marks p'.1).1.map encI)), (0, .box b2 22 [.x kv])], S := [], ws := w }) (fun p' : Nat × Value => p'.1 ≤ 2 ^ K.length) (fun p' : Nat × Value => 2 ^ K.length - p'.1)
  (fun w' hw => ⟨(0, .slice none 0 0), Nat.zero_le _, Le.of rfl rfl ⟨rfl, rfl, rfl, rfl, congrArg (Value.int .u64) hsh, rfl, trivial⟩, hw.nil rfl rfl rfl, ⟨⟨_, _, rfl⟩, ⟨_, _, _, rfl⟩, trivial⟩, ⟨(nopI _).okH, trivial⟩⟩) ?_
 rintro ⟨s, vb⟩ hs
 simp only at hs ⊢
 have hql := askT_len K marks s
 have hst : askT K marks (s + 1) = askS K marks (askT K marks s) s := rfl
 generalize hqe : askT K marks s = q at hql hst ⊢
 repeat refine zq ?_
 refine zr ?_; conv => whnf
 repeat refine zq ?_
 refine At.cond rfl (fun hc => At.skip ?_) (fun hc => At.exit ?_)
 ·have hlt : s < 2 ^ K.length := by have := of_decide_eq_true hc; omega
  have hbl := bitsTo_len s K.length
  have hmeas : 2 ^ K.length - (s + 1) < 2 ^ K.length - s := by omega
  have hinU : inU ((s : Int) + 1) := ⟨by omega, by omega⟩
  repeat refine zq ?_
  refine At.block ?_
  repeat refine zq ?_
  refine zr ?_; conv => whnf
  repeat refine zq ?_
  refine zr ?_; conv => whnf
  refine ⟨.i (popN s), gimp_of (ans_quiet b21 (fun w' _ => ones_c s (by omega) w')), ?_⟩; conv => whnf
  refine ⟨by simp only [gimp]; intros; trivial, ?_⟩; conv => whnf
  repeat refine zq ?_
  refine At.cond rfl (fun hq => ?_) (fun hq => At.skip ?_)
  ·have hskip : (q.2 && decide (q.1.length < popN s)) = true := by simpa [band] using hq
   have hst' : askS K marks q s = q := by unfold askS; rw [if_pos hskip]
   rw [hst'] at hst
   refine At.exit ?_
   repeat refine zq ?_
   refine zr ?_; conv => whnf
   refine ⟨hinU, ?_⟩; conv => whnf
   refine At.nextH fun w' hw => ⟨(s + 1, vb), by simp only; omega, hmeas, Le.of rfl rfl ⟨rfl, rfl, rfl, congrArg Value.bool (by simp only [hst]), rfl, rfl, trivial⟩, hw.keep [1, 0] (by simp only [hst]; rfl) rfl rfl, ⟨⟨_, _, rfl⟩, ⟨_, _, _, rfl⟩, trivial⟩, ⟨(nopI _).okH, trivial⟩⟩
  have hskip : ¬ (q.2 && decide (q.1.length < popN s)) = true := by simpa [band] using hq
  clear hq
  repeat refine zq ?_
  refine zr ?_; conv => whnf
  repeat refine zq ?_
  refine zr ?_; conv => whnf
  refine ⟨hK.sl, ?_⟩; conv => whnf
  repeat refine zq ?_
  refine At.block ?_
  refine At.loopH (fun p' : Nat × Value => { N := Tryz.f6.ntmps, sl := [(1, some (.x mv)), (2, some (.s (.c (.p 0 b2 0)))), (6, some (.s (.c (.o 1 vb)))), (7, some (.b q.2)), (18, some (.x ((.int .u64 ((2 ^ K.length : Nat) : Int))))), (19, some (.x ((.int .u64 (s : Int))))), (8, some (.x ((.int .u64 (s : Int))))), (9, some (.s (.c (.o 2 p'.2)))), (31, some (.i K.length)), (32, some (.i p'.1))], gl := [], hp := [(2, .row p'.2 3 1 ((bitsTo s p'.1).map encI)), (1, .row vb 3 1 (q.1.map encI)), (0, .box b2 22 [.x kv])], S := [], ws := w }) (fun p' : Nat × Value => p'.1 ≤ K.length) (fun p' : Nat × Value => K.length - p'.1)
   (fun w' hw => ⟨(0, .slice none 0 0), Nat.zero_le _, Le.of rfl rfl ⟨rfl, rfl, rfl, rfl, rfl, rfl, rfl, rfl, congrArg (Value.int .i64) hkn, rfl, trivial⟩, hw.nil rfl rfl rfl, ⟨⟨_, _, rfl⟩, ⟨_, _, _, rfl⟩, ⟨_, _, _, rfl⟩, trivial⟩, ⟨(nopI _).okH, (nopI _).okH, trivial⟩⟩) ?_
  rintro ⟨k, vl⟩ hk
  simp only at hk ⊢
  repeat refine zq ?_
  refine zr ?_; conv => whnf
  repeat refine zq ?_
  refine At.cond rfl (fun hc => At.skip ?_) (fun hc => At.exit ?_)
  ·have hkl : k < K.length := by have := of_decide_eq_true hc; omega
   have hbit : decide (andU ((s : Int) / 2 ^ (k : Int).toNat) 1 = 1) = s.testBit k := by rw [Int.toNat_natCast]; exact bit_eq s k
   have hsn := bitsTo_snoc s k
   have hbk := bitsTo_len s k
   have hdv : (s : Int) / 2 ^ (k : Int).toNat = ((s / 2 ^ k : Nat) : Int) := by rw [Int.toNat_natCast]; push_cast; rfl
   have hdl : s / 2 ^ k ≤ s := Nat.div_le_self _ _
   repeat refine zq ?_
   refine At.block ?_
   repeat refine zq ?_
   refine zr ?_; conv => whnf
   repeat refine zq ?_
   refine zr ?_; conv => whnf
   refine ⟨by omega, ?_⟩; conv => whnf
   refine ⟨by omega, ?_⟩; conv => whnf
   refine ⟨by omega, ?_⟩; conv => whnf
   refine ⟨by rw [hdv]; generalize s / 2 ^ k = y at hdl ⊢; exact ⟨by omega, by omega⟩, ?_⟩; conv => whnf
   refine ⟨⟨by decide, by decide⟩, ?_⟩; conv => whnf
   repeat refine zq ?_
   refine At.cond rfl (fun hq => ?_) (fun hq => At.skip ?_)
   ·rw [hbit] at hq
    rw [hq, if_pos rfl] at hsn
    repeat refine zq ?_
    refine zr ?_; conv => whnf
    intro v4; conv => whnf
    refine ⟨rfl, ?_⟩; conv => whnf
    refine ⟨⟨rfl, by simp; omega⟩, ?_⟩; conv => whnf
    intro v5; conv => whnf
    repeat refine zq ?_
    refine zr ?_; conv => whnf
    refine ⟨⟨by omega, by omega⟩, ?_⟩; conv => whnf
    refine At.nextH fun w' hw => ⟨(k + 1, v5), by simp only; omega, by simp only; omega, Le.of rfl rfl ⟨rfl, rfl, rfl, rfl, rfl, rfl, rfl, rfl, rfl, rfl, trivial⟩, hw.keep [2, 1, 0] ?_ rfl rfl, ⟨⟨_, _, rfl⟩, ⟨_, _, _, rfl⟩, ⟨_, _, _, rfl⟩, trivial⟩, ⟨(nopI _).okH, (nopI _).okH, trivial⟩⟩
    show [(2, LO.row v5 3 1 _), (1, LO.row vb 3 1 _), (0, LO.box b2 22 _)] = [(2, LO.row v5 3 1 _), (1, LO.row vb 3 1 _), (0, LO.box b2 22 _)]
    rw [hsn, List.map_append]
    rfl
   ·rw [hbit] at hq
    rw [hq, if_neg (by decide), List.append_nil] at hsn
    repeat refine zq ?_
    refine zr ?_; conv => whnf
    refine ⟨⟨by omega, by omega⟩, ?_⟩; conv => whnf
    refine At.nextH fun w' hw => ⟨(k + 1, vl), by simp only; omega, by simp only; omega, Le.of rfl rfl ⟨rfl, rfl, rfl, rfl, rfl, rfl, rfl, rfl, rfl, rfl, trivial⟩, hw.keep [2, 1, 0] (by simp only [hsn]; rfl) rfl rfl, ⟨⟨_, _, rfl⟩, ⟨_, _, _, rfl⟩, ⟨_, _, _, rfl⟩, trivial⟩, ⟨(nopI _).okH, (nopI _).okH, trivial⟩⟩
  ·have hge : k = K.length := by have := of_decide_eq_false hc; omega
   subst hge
   repeat refine zq ?_
   refine zr ?_; conv => whnf
   refine ⟨hm.sl, ?_⟩; conv => whnf
   repeat refine zq ?_
   refine At.block ?_
   refine At.loopH (fun j : Nat => { N := Tryz.f6.ntmps, sl := [(1, some (.x mv)), (2, some (.s (.c (.p 0 b2 0)))), (6, some (.s (.c (.o 1 vb)))), (7, some (.b q.2)), (18, some (.x ((.int .u64 ((2 ^ K.length : Nat) : Int))))), (19, some (.x ((.int .u64 (s : Int))))), (9, some (.s (.c (.o 2 vl)))), (45, some (.x mv)), (46, some (.i marks.length)), (47, some (.i j))], gl := [], hp := [(2, .row vl 3 1 ((bitsTo s K.length).map encI)), (1, .row vb 3 1 (q.1.map encI)), (0, .box b2 22 [.x kv])], S := [], ws := w }) (fun j : Nat => j ≤ marks.length ∧ ∀ (i : Nat) m, i < j → marks[i]? = some m → (bitsTo s K.length).any (knowsB K m) = true) (fun j : Nat => marks.length - j)
    (fun w' hw => ⟨0, ⟨Nat.zero_le _, fun i m hi => by omega⟩, Le.of rfl rfl ⟨rfl, rfl, rfl, rfl, rfl, rfl, rfl, rfl, congrArg (Value.int .i64) hmn, rfl, trivial⟩, hw.keep [2, 1, 0] rfl rfl rfl, ⟨⟨_, _, rfl⟩, ⟨_, _, _, rfl⟩, ⟨_, _, _, rfl⟩, trivial⟩, ⟨(nopI _).okH, (nopI _).okH, trivial⟩⟩) ?_
   rintro j ⟨hj, hall⟩
   repeat refine zq ?_
   refine zr ?_; conv => whnf
   repeat refine zq ?_
   refine At.cond rfl (fun hc => At.skip ?_) (fun hc => At.exit ?_)
   ·have hjl : j < marks.length := by have := of_decide_eq_true hc; omega
    obtain ⟨m, hm'⟩ : ∃ m, marks[j]? = some m := ⟨_, List.getElem?_eq_getElem hjl⟩
    repeat refine zq ?_
    refine At.block ?_
    repeat refine zq ?_
    refine zr ?_; conv => whnf
    refine ⟨by omega, ?_⟩; conv => whnf
    refine ⟨by omega, ?_⟩; conv => whnf
    refine ⟨[.i m], fun w' hw => hm.load (n := 1) hw.fr hm' rfl, ?_⟩; conv => whnf
    intro b12; conv => whnf
    repeat refine zq ?_
    refine zr ?_; conv => whnf
    refine ans_call b22 rfl (fun w' hw => containsF_c (bitsTo s K.length) [] vl w' (SlOf.of_row (enc := fun n => [.i n]) (hw.row (id := 2) rfl) (fun _ _ => nilS) (by omega)) 23 #[ptr b2, ptr b12] (knowsB K m) b23 (fun p hp w'' hx => ask1_c K kv b2 b12 m p w'' ((hK.fr hw.fr).ext hx) (box_v (T := 22) ((hx.block b2 (Array.getElem?_eq_some_iff.1 (hw.box (id := 0) rfl)).1 nilS).trans (hw.box (id := 0) rfl)) nilS) (box_i (T := 3) ((hx.block b12 (Array.getElem?_eq_some_iff.1 (hw.box (id := 3) rfl)).1 nilS).trans (hw.box (id := 3) rfl)) nilS) (bitsTo_mem hp).1 (bitsTo_mem hp).2)) ?_; conv => whnf
    repeat refine zq ?_
    refine At.cond rfl (fun hq => ?_) (fun hq => At.skip ?_)
    ·have hany : (bitsTo s K.length).any (knowsB K m) = false := by simpa using hq
     have hbad : goodB K marks (bitsTo s K.length) = false := by unfold goodB; rw [List.all_eq_false]; exact ⟨m, List.mem_of_getElem? hm', by rw [hany]; decide⟩
     have hst' : askS K marks q s = q := by unfold askS; rw [if_neg hskip, if_pos (by rw [hbad]; rfl)]
     rw [hst'] at hst
     refine At.exit ?_
     repeat refine zq ?_
     refine zr ?_; conv => whnf
     refine ⟨hinU, ?_⟩; conv => whnf
     refine At.nextH fun w' hw => ⟨(s + 1, vb), by simp only; omega, hmeas, Le.of rfl rfl ⟨rfl, rfl, rfl, congrArg Value.bool (by simp only [hst]), rfl, rfl, trivial⟩, hw.keep [1, 0] (by simp only [hst]; rfl) rfl rfl, ⟨⟨_, _, rfl⟩, ⟨_, _, _, rfl⟩, trivial⟩, ⟨(nopI _).okH, trivial⟩⟩
    ·have hany : (bitsTo s K.length).any (knowsB K m) = true := by simpa using hq
     repeat refine zq ?_
     refine zr ?_; conv => whnf
     refine ⟨⟨by omega, by omega⟩, ?_⟩; conv => whnf
     refine At.nextH fun w' hw => ⟨j + 1, ⟨by omega, fun i m' hi hmi => by rcases Nat.lt_or_ge i j with hi' | hi'; exact hall i m' hi' hmi; obtain rfl : i = j := (by omega); rw [hm'] at hmi; cases hmi; exact hany⟩, by omega, Le.of rfl rfl ⟨rfl, rfl, rfl, rfl, rfl, rfl, rfl, rfl, rfl, rfl, trivial⟩, hw.keep [2, 1, 0] rfl rfl rfl, ⟨⟨_, _, rfl⟩, ⟨_, _, _, rfl⟩, ⟨_, _, _, rfl⟩, trivial⟩, ⟨(nopI _).okH, (nopI _).okH, trivial⟩⟩
   ·have hge : j = marks.length := by have := of_decide_eq_false hc; omega
    subst hge
    have hgood : goodB K marks (bitsTo s K.length) = true := by
     unfold goodB; rw [List.all_eq_true]
     intro m hmm
     obtain ⟨i, hi⟩ := List.getElem?_of_mem hmm
     exact hall i m (List.getElem?_eq_some_iff.1 hi).1 hi
    repeat refine zq ?_
    refine zr ?_; conv => whnf
    refine ⟨by simp only [gimp]; intros; trivial, ?_⟩; conv => whnf
    refine ⟨by simp only [gimp]; intros; trivial, ?_⟩; conv => whnf
    refine ⟨.i (cmpLI (bitsTo s K.length) q.1), gimp_of (ans_quiet b25 (fun w' hw => cmpL_c (bitsTo s K.length) q.1 [] [] vl vb w' (SlOf.of_row (enc := fun n => [.i n]) (hw.row (id := 2) rfl) (fun _ _ => nilS) (by omega)) (SlOf.of_row (enc := fun n => [.i n]) (hw.row (id := 1) rfl) (fun _ _ => nilS) (by omega)))), ?_⟩; conv => whnf
    repeat refine zq ?_
    refine At.cond rfl (fun hq => ?_) (fun hq => At.skip ?_)
    ·have hup : ((!q.2 || decide ((bitsTo s K.length).length < q.1.length)) || decide (cmpLI (bitsTo s K.length) q.1 < 0)) = true := by simpa [bor] using hq
     have hst' : askS K marks q s = (bitsTo s K.length, true) := by unfold askS; rw [if_neg hskip, if_neg (by rw [hgood]; decide), if_pos hup]
     rw [hst'] at hst
     repeat refine zq ?_
     refine zr ?_; conv => whnf
     repeat refine zq ?_
     refine zr ?_; conv => whnf
     refine ⟨hinU, ?_⟩; conv => whnf
     refine At.nextH fun w' hw => ⟨(s + 1, vl), by simp only; omega, hmeas, Le.of rfl rfl ⟨rfl, rfl, rfl, congrArg Value.bool (by simp only [hst]), rfl, rfl, trivial⟩, hw.ren [2,0] ((by simp only [hst]; rfl)) rfl rfl, ⟨⟨_, _, rfl⟩, ⟨_, _, _, rfl⟩, trivial⟩, ⟨(nopI _).okH, trivial⟩⟩
    ·have hup : ¬ ((!q.2 || decide ((bitsTo s K.length).length < q.1.length)) || decide (cmpLI (bitsTo s K.length) q.1 < 0)) = true := by simpa [bor] using hq
     have hst' : askS K marks q s = q := by unfold askS; rw [if_neg hskip, if_neg (by rw [hgood]; decide), if_neg hup]
     rw [hst'] at hst
     repeat refine zq ?_
     refine zr ?_; conv => whnf
     refine ⟨hinU, ?_⟩; conv => whnf
     refine At.nextH fun w' hw => ⟨(s + 1, vb), by simp only; omega, hmeas, Le.of rfl rfl ⟨rfl, rfl, rfl, congrArg Value.bool (by simp only [hst]), rfl, rfl, trivial⟩, hw.keep [1, 0] (by simp only [hst]; rfl) rfl rfl, ⟨⟨_, _, rfl⟩, ⟨_, _, _, rfl⟩, trivial⟩, ⟨(nopI _).okH, trivial⟩⟩
 ·have hge : s = 2 ^ K.length := by have := of_decide_eq_false hc; omega
  subst hge
  repeat refine zq ?_
  refine zr ?_; conv => whnf
  repeat refine zq ?_
  refine At.ret (At.doneB tab_ok hB _ rfl fun w' hw => ?_)
  rw [hres, hqe]
  exact ⟨[vb], rfl, ⟨hw.row (id := 1) rfl, fun b hb => (hw.fresh (id := 1) rfl b hb).elim (fun h => by cases h) _root_.id, fun u hu => (by cases hu), rfl⟩, hw.fr⟩
end Go.Proofs.YtgpgbiklefkjjaaGreatDoor
namespace Go.Proofs.YtgpgbiklefkjjaaGreatDoor
open Go.Vc Rt Go.Bs
theorem popN_eq {s n : Nat} (hs : s < 2 ^ n) (hn : n ≤ 12) : popN s = (bitsTo s n).length := by
 unfold popN bitsTo
 rw [List.length_map, show 12 = n + (12 - n) by omega, List.range_add, List.filter_append, List.length_append]
 have : ((List.range (12 - n)).map (n + ·)).filter (fun k => s.testBit k) = [] := by
  rw [List.filter_eq_nil_iff]
  intro x hx
  obtain ⟨i, _, rfl⟩ := List.mem_map.1 hx
  have h1 : s < 2 ^ (n + i) := Nat.lt_of_lt_of_le hs (Nat.pow_le_pow_right (by decide) (by omega))
  simp [Nat.testBit_lt_two_pow h1]
 rw [this, List.length_nil, Nat.add_zero]
structure AskI (K : List (List Int)) (marks : List Int) (s : Nat) (q : List Int × Bool) : Prop where
 no : q.2 = false → q.1 = [] ∧ ∀ s' < s, goodB K marks (bitsTo s' K.length) = false
 yes : q.2 = true → (∃ s' < s, q.1 = bitsTo s' K.length ∧ goodB K marks (bitsTo s' K.length) = true) ∧ ∀ s' < s, goodB K marks (bitsTo s' K.length) = true → q.1.length ≤ (bitsTo s' K.length).length
theorem ask_inv (K : List (List Int)) (marks : List Int) (hn : K.length ≤ 12) : ∀ s, s ≤ 2 ^ K.length → AskI K marks s (askT K marks s)
 | 0, _ => ⟨fun _ => ⟨rfl, fun s' h => by omega⟩, fun h => by simp [askT] at h⟩
 | s + 1, hs => by
  have ih := ask_inv K marks hn s (by omega)
  have hp := popN_eq (s := s) (n := K.length) (by omega) hn
  have e : askT K marks (s + 1) = askS K marks (askT K marks s) s := rfl
  rw [e]
  generalize askT K marks s = q at ih ⊢
  have key : ∀ {p : Nat → Prop}, (∀ s' < s, p s') → p s → ∀ s' < s + 1, p s' := fun h1 h2 s' h => by
   rcases Nat.lt_or_ge s' s with h' | h'
   ·exact h1 s' h'
   ·obtain rfl : s' = s := by omega
    exact h2
  unfold askS
  split
  ·rename_i hsk
   simp only [Bool.and_eq_true, decide_eq_true_eq] at hsk
   refine ⟨fun h => (by rw [hsk.1] at h; cases h), fun h => ?_⟩
   obtain ⟨⟨s', h1, h2⟩, h3⟩ := ih.yes h
   exact ⟨⟨s', by omega, h2⟩, key h3 fun _ => by omega⟩
  ·rename_i hsk
   split
   ·rename_i hg
    have hg' : goodB K marks (bitsTo s K.length) = false := by simpa using hg
    refine ⟨fun h => ⟨(ih.no h).1, key (ih.no h).2 hg'⟩, fun h => ?_⟩
    obtain ⟨⟨s', h1, h2⟩, h3⟩ := ih.yes h
    exact ⟨⟨s', by omega, h2⟩, key h3 fun hc => by rw [hg'] at hc; cases hc⟩
   ·rename_i hg
    have hg' : goodB K marks (bitsTo s K.length) = true := by simpa using hg
    split
    ·rename_i hu
     refine ⟨fun h => (by cases h), fun _ => ⟨⟨s, by omega, rfl, hg'⟩, key (fun s' h' hs' => ?_) fun _ => Nat.le_refl _⟩⟩
     cases hq : q.2 with
     | false => have := (ih.no hq).2 s' h'; rw [hs'] at this; cases this
     | true =>
      have h3 := (ih.yes hq).2 s' h' hs'
      have h4 : ¬ q.1.length < popN s := fun h => hsk (by rw [hq]; simp [h])
      show (bitsTo s K.length).length ≤ _
      omega
    ·rename_i hu
     cases hq : q.2 with
     | false => rw [hq] at hu; simp at hu
     | true =>
      have h4 : ¬ (bitsTo s K.length).length < q.1.length := fun h => hu (by rw [hq]; simp [h])
      obtain ⟨⟨s', h1, h2⟩, h3⟩ := ih.yes hq
      exact ⟨fun h => (by rw [hq] at h; cases h), fun _ => ⟨⟨s', by omega, h2⟩, key h3 fun _ => by omega⟩⟩
theorem bitsTo_asc (s n : Nat) : (bitsTo s n).Pairwise (· < ·) := by
 unfold bitsTo
 rw [List.pairwise_map]
 exact (List.pairwise_lt_range.filter _).imp fun h => by omega
structure AskOk (K : List (List Int)) (marks : List Int) (l : List Int) (ok : Bool) : Prop where
 nil : ok = false → l = []
 mem : ∀ p ∈ l, 0 ≤ p ∧ p < K.length
 asc : l.Pairwise (· < ·)
 good : ok = true → ∀ m ∈ marks, l.any (knowsB K m) = true
 least : ∀ s < 2 ^ K.length, goodB K marks (bitsTo s K.length) = true → ok = true ∧ l.length ≤ (bitsTo s K.length).length
theorem ask_ok (K : List (List Int)) (marks : List Int) (hn : K.length ≤ 12) : AskOk K marks (askB K marks).1 (askB K marks).2 := by
 have e : askB K marks = askT K marks (2 ^ K.length) := by unfold askB; rw [if_neg (by omega)]
 have h := ask_inv K marks hn _ (Nat.le_refl _)
 rw [e]
 generalize askT K marks (2 ^ K.length) = q at h ⊢
 obtain ⟨l, ok⟩ := q
 cases ok with
 | false =>
  obtain ⟨h1, h2⟩ := h.no rfl
  simp only at h1 h2 ⊢
  subst h1
  exact ⟨fun _ => rfl, fun p hp => (by cases hp), .nil, fun h => (by cases h), fun s hs hg => by rw [h2 s hs] at hg; cases hg⟩
 | true =>
  obtain ⟨⟨s, hs, rfl, hg⟩, h2⟩ := h.yes rfl
  simp only at h2 ⊢
  exact ⟨fun h => (by cases h), fun p hp => bitsTo_mem hp, bitsTo_asc _ _, fun _ m hm => List.all_eq_true.1 hg m hm, fun s' hs' hg' => ⟨rfl, h2 s' hs' hg'⟩⟩
end Go.Proofs.YtgpgbiklefkjjaaGreatDoor
namespace Go.Proofs.YtgpgbiklefkjjaaGreatDoor
open Go.Vc Rt Go.Bs
set_option maxHeartbeats 1000000
theorem gimp2 {g b g' b' : Bool} {p : Prop} (h : g = b → g' = b' → p) : gimp [(g, b), (g', b')] p := h
theorem gimp1 {g b : Bool} {p : Prop} (h : g = b → p) : gimp [(g, b)] p := h
theorem andI_U (a : Nat) (h : a < 4294967296) : andI (a : Int) 1 = andU (a : Int) 1 := by
 have e1 : (BitVec.ofInt 64 (a : Int)).toNat = a := by rw [ofInt_u ⟨by omega, by omega⟩]; simp
 have e2 : (BitVec.ofInt 64 1).toNat = 1 := by decide
 unfold andI andU
 rw [BitVec.toNat_and, e1, e2]
 have h1 : a &&& 1 ≤ 1 := Nat.and_le_right
 show IntKind.i64.wrap ((a &&& 1 : Nat) : Int) = ((a &&& 1 : Nat) : Int)
 generalize a &&& 1 = y at h1
 exact IntWalk.i64_in _ ⟨by omega, by omega⟩
theorem bitI (s k : Nat) (hs : s < 4294967296) : decide (andI ((s : Int) / 2 ^ (k : Int).toNat) 1 = 1) = s.testBit k := by
 have hd : (s : Int) / 2 ^ k = ((s / 2 ^ k : Nat) : Int) := by push_cast; rfl
 rw [Int.toNat_natCast, ← bit_eq s k, hd, andI_U _ (Nat.lt_of_le_of_lt (Nat.div_le_self _ _) hs)]
theorem has_eq (xs : List Int) (m : Int) : (xs.any fun x => decide (x = m)) = hasI xs m := by
 unfold hasI; congr 1; funext x; rw [Bool.eq_iff_iff]; simp [eq_comm]
theorem law_c (hsmall : ∀ w, Gl w → Ans Tryz.prog 4 [] (.b true) w) (K : List (List Int)) (marks : List Int) (pv mv : Value) (w : World) (hG : Gl w) (hK : SlOf (slT intT) [] w pv K) (hm : SlOf intT [] w mv marks) : Ans Tryz.prog 3 [pv, mv] (.b true) w := by
 have hkn := hK.len
 have hmn := hm.len
 refine calls_plainB [.x pv, .x mv] Tryz.func3 rfl rfl (Nat.le_of_ble_eq_true rfl) rfl fun B hB => ?_
 repeat refine zq ?_
 refine zr ?_; conv => whnf
 repeat refine zq ?_
 refine zr ?_; conv => whnf
 refine ans_call b4 rfl (fun w' hw => hsmall w' (hG.ext hw.fr)) ?_; conv => whnf
 repeat refine zq ?_
 refine zr ?_; conv => whnf
 refine ans_call b5 rfl (fun w' hw => fewB_c K pv w' (hK.ext hw.fr)) ?_; conv => whnf
 refine ⟨by simp only [gimp]; intros; exact hK.sl, ?_⟩; conv => whnf
 refine ⟨by simp only [gimp]; intros; exact hm.sl, ?_⟩; conv => whnf
 repeat refine zq ?_
 refine At.cond rfl (fun hq => ?_) (fun hq => At.skip ?_)
 ·repeat refine zq ?_
  refine zr ?_; conv => whnf
  repeat refine zq ?_
  refine At.ret (At.doneB tab_ok hB _ rfl fun w' hw => ⟨rfl, hw.fr⟩)
 have hlim : K.length ≤ 10 ∧ marks.length ≤ 20 := by
  simp only [band, bor, Bool.or_eq_false_iff, decide_eq_false_iff_not] at hq
  omega
 obtain ⟨hn, hml⟩ := hlim
 clear hq
 have hAok := ask_ok K marks (by omega)
 have hAl : (askB K marks).1.length ≤ 12 := by
  have e : askB K marks = askT K marks (2 ^ K.length) := by unfold askB; rw [if_neg (by omega)]
  rw [e]
  have := askT_len K marks (2 ^ K.length)
  omega
 repeat refine zq ?_
 refine zr ?_; conv => whnf
 refine ansR_call b6 (rd1p (nopI _) rfl) (fun w' hw => ask_c K marks pv mv w' (hK.ext hw.fr) (hm.ext hw.fr) (by omega)) ?_
 intro vl; conv => whnf
 generalize askB K marks = q at hAok hAl ⊢
 obtain ⟨l, ok⟩ := q
 simp only at hAok hAl ⊢
 repeat refine zq ?_
 refine zr ?_; conv => whnf
 repeat refine zq ?_
 refine At.block ?_
 refine At.loopH (fun i : Nat => { N := Tryz.f3.ntmps, sl := [(0, some (.x pv)), (1, some (.x mv)), (5, some (.b true)), (6, some (.s (.c (.o 0 vl)))), (7, some (.b ok)), (8, some (.i i))], gl := [], hp := [(0, .row vl 3 1 (l.map encI))], S := [], ws := w }) (fun i : Nat => i ≤ l.length) (fun i : Nat => l.length - i)
  (fun w' hw => ⟨0, Nat.zero_le _, Le.of rfl rfl ⟨rfl, rfl, rfl, rfl, rfl, rfl, trivial⟩, hw.keep [0] rfl rfl rfl, ⟨⟨_, _, _, rfl⟩, trivial⟩, ⟨(nopI _).okH, trivial⟩⟩) ?_
 intro i hi
 repeat refine zq ?_
 refine zr ?_; conv => whnf
 refine ⟨rfl, ?_⟩; conv => whnf
 repeat refine zq ?_
 refine At.cond rfl (fun hc => At.skip ?_) (fun hc => At.exit ?_)
 ·have hlt : i < l.length := by have := of_decide_eq_true hc; simp only [List.length_map] at this; omega
  obtain ⟨x, hx⟩ : ∃ x, l[i]? = some x := ⟨_, List.getElem?_eq_getElem hlt⟩
  have hxm := hAok.mem x (List.mem_of_getElem? hx)
  repeat refine zq ?_
  refine At.block ?_
  repeat refine zq ?_
  refine At.draw tab_ok mixed (by kernel_rfl) ?_; conv => whnf
  have hprev : 0 < i → l.getD (i - 1) 0 < x := fun h0 => by
   have h1 : i - 1 < l.length := by omega
   have := List.pairwise_iff_getElem.1 hAok.asc (i - 1) i h1 hlt (by omega)
   rw [List.getElem?_eq_getElem hlt] at hx
   rw [List.getD_eq_getElem?_getD, List.getElem?_eq_getElem h1, ← Option.some.inj hx]
   exact this
  refine ⟨rfl, ?_⟩; conv => whnf
  refine ⟨by omega, ?_⟩; conv => whnf
  refine ⟨by rw [List.length_map]; omega, ?_⟩; conv => whnf
  refine ⟨encI x, ⟨rfl, rfl, by omega, by rw [Int.toNat_natCast, List.getElem?_map, hx]; rfl⟩, ?_⟩; conv => whnf
  refine ⟨by simp only [gimp]; intros; trivial, ?_⟩; conv => whnf
  refine ⟨by simp only [gimp]; intros; omega, ?_⟩; conv => whnf
  refine ⟨by simp only [gimp]; intros; rw [List.length_map]; omega, ?_⟩; conv => whnf
  refine ⟨encI x, gimp_of ⟨rfl, rfl, by omega, by rw [Int.toNat_natCast, List.getElem?_map, hx]; rfl⟩, ?_⟩; conv => whnf
  refine ⟨by simp only [gimp]; intros; exact hK.sl, ?_⟩; conv => whnf
  refine ⟨gimp2 fun h0 _ => ⟨by omega, by omega⟩, ?_⟩; conv => whnf
  refine ⟨gimp2 fun h0 _ => rfl, ?_⟩; conv => whnf
  refine ⟨gimp2 fun h0 _ => by have := of_decide_eq_true h0; omega, ?_⟩; conv => whnf
  refine ⟨gimp2 fun h0 _ => by rw [List.length_map]; omega, ?_⟩; conv => whnf
  refine ⟨encI (l.getD (i - 1) 0), gimp2 fun h0 _ => ⟨rfl, rfl, by have := of_decide_eq_true h0; omega, by have h1 := of_decide_eq_true h0; rw [show ((i : Int) - 1).toNat = i - 1 by omega, List.getElem?_map, List.getElem?_eq_getElem (by omega), List.getD_eq_getElem?_getD, List.getElem?_eq_getElem (by omega)]; rfl⟩, ?_⟩; conv => whnf
  refine ⟨gimp2 fun h0 _ => rfl, ?_⟩; conv => whnf
  refine ⟨gimp2 fun h0 _ => by omega, ?_⟩; conv => whnf
  refine ⟨gimp2 fun h0 _ => by rw [List.length_map]; omega, ?_⟩; conv => whnf
  refine ⟨encI x, gimp2 fun h0 _ => ⟨rfl, rfl, by omega, by rw [Int.toNat_natCast, List.getElem?_map, hx]; rfl⟩, ?_⟩; conv => whnf
  repeat refine zq ?_
  refine At.cond rfl (fun hq => ?_) (fun hq => At.skip ?_)
  ·exfalso
   have h1 : ¬ x < 0 := by omega
   have h2 : ¬ slen pv ≤ x := by omega
   simp only [h1, h2, decide_false, cond_false, band, bor, Bool.false_or, Bool.and_eq_true, decide_eq_true_eq] at hq
   have := hprev (by omega)
   omega
  repeat refine zq ?_
  refine zr ?_; conv => whnf
  refine ⟨⟨by omega, by omega⟩, ?_⟩; conv => whnf
  refine At.nextH fun w' hw => ⟨i + 1, by omega, by omega, Le.of rfl rfl ⟨rfl, rfl, rfl, rfl, rfl, rfl, trivial⟩, hw.keep [0] rfl rfl rfl, ⟨⟨_, _, _, rfl⟩, trivial⟩, ⟨(nopI _).okH, trivial⟩⟩
 ·have hge : i = l.length := by have := of_decide_eq_false hc; simp only [List.length_map] at this; omega
  subst hge
  have h2n : (2 : Nat) ^ K.length ≤ 1024 := Nat.pow_le_pow_right (by decide) hn
  have hsh : (1 : Int) * 2 ^ (slen pv).toNat = ((2 ^ K.length : Nat) : Int) := by rw [hkn, Int.toNat_natCast, Int.one_mul]; push_cast; rfl
  repeat refine zq ?_
  refine zr ?_; conv => whnf
  repeat refine zq ?_
  refine At.block ?_
  refine At.loopH (fun s : Nat => { N := Tryz.f3.ntmps, sl := [(0, some (.x pv)), (1, some (.x mv)), (5, some (.b true)), (6, some (.s (.c (.o 0 vl)))), (7, some (.b ok)), (9, some (.i s))], gl := [], hp := [(0, .row vl 3 1 (l.map encI))], S := [], ws := w }) (fun s : Nat => s ≤ 2 ^ K.length) (fun s : Nat => 2 ^ K.length - s)
   (fun w' hw => ⟨0, Nat.zero_le _, Le.of rfl rfl ⟨rfl, rfl, rfl, rfl, rfl, rfl, trivial⟩, hw.keep [0] rfl rfl rfl, ⟨⟨_, _, _, rfl⟩, trivial⟩, ⟨(nopI _).okH, trivial⟩⟩) ?_
  intro s hs
  repeat refine zq ?_
  refine zr ?_; conv => whnf
  refine ⟨hK.sl, ?_⟩; conv => whnf
  refine ⟨by omega, ?_⟩; conv => whnf
  refine ⟨by omega, ?_⟩; conv => whnf
  refine ⟨by rw [hsh]; generalize (2 : Nat) ^ K.length = y at h2n ⊢; exact ⟨by omega, by omega⟩, ?_⟩; conv => whnf
  repeat refine zq ?_
  refine At.cond rfl (fun hc => At.skip ?_) (fun hc => At.exit ?_)
  ·have hsl : s < 2 ^ K.length := by have := of_decide_eq_true hc; rw [hsh] at this; omega
   repeat refine zq ?_
   refine At.block ?_
   repeat refine zq ?_
   refine zr ?_; conv => whnf
   repeat refine zq ?_
   refine zr ?_; conv => whnf
   repeat refine zq ?_
   refine zr ?_; conv => whnf
   repeat refine zq ?_
   refine At.block ?_
   refine At.loopH (fun p : Nat => { N := Tryz.f3.ntmps, sl := [(0, some (.x pv)), (1, some (.x mv)), (5, some (.b true)), (6, some (.s (.c (.o 0 vl)))), (7, some (.b ok)), (9, some (.i s)), (10, some (.i ((bitsTo s p).length))), (11, some (.b true)), (12, some (.i p))], gl := [], hp := [(0, .row vl 3 1 (l.map encI))], S := [], ws := w }) (fun p : Nat => p ≤ K.length) (fun p : Nat => K.length - p)
    (fun w' hw => ⟨0, Nat.zero_le _, Le.of rfl rfl ⟨rfl, rfl, rfl, rfl, rfl, rfl, rfl, rfl, rfl, trivial⟩, hw.keep [0] rfl rfl rfl, ⟨⟨_, _, _, rfl⟩, trivial⟩, ⟨(nopI _).okH, trivial⟩⟩) ?_
   intro p hp
   repeat refine zq ?_
   refine zr ?_; conv => whnf
   refine ⟨hK.sl, ?_⟩; conv => whnf
   repeat refine zq ?_
   refine At.cond rfl (fun hc => At.skip ?_) (fun hc => At.exit ?_)
   ·have hpl : p < K.length := by have := of_decide_eq_true hc; omega
    have hbit := bitI s p (by omega)
    have hsn := bitsTo_snoc s p
    have hbk := bitsTo_len s p
    repeat refine zq ?_
    refine At.block ?_
    repeat refine zq ?_
    refine zr ?_; conv => whnf
    refine ⟨by omega, ?_⟩; conv => whnf
    refine ⟨by omega, ?_⟩; conv => whnf
    repeat refine zq ?_
    refine At.cond rfl (fun hq => ?_) (fun hq => At.skip ?_)
    ·rw [hbit] at hq
     rw [hq, if_pos rfl] at hsn
     have hln : (bitsTo s (p + 1)).length = (bitsTo s p).length + 1 := by rw [hsn]; simp
     repeat refine zq ?_
     refine zr ?_; conv => whnf
     refine ⟨⟨by omega, by omega⟩, ?_⟩; conv => whnf
     repeat refine zq ?_
     refine zr ?_; conv => whnf
     refine ⟨⟨by omega, by omega⟩, ?_⟩; conv => whnf
     refine At.nextH fun w' hw => ⟨p + 1, by omega, by omega, Le.of rfl rfl ⟨rfl, rfl, rfl, rfl, rfl, rfl, congrArg (Value.int .i64) (by omega), rfl, rfl, trivial⟩, hw.keep [0] rfl rfl rfl, ⟨⟨_, _, _, rfl⟩, trivial⟩, ⟨(nopI _).okH, trivial⟩⟩
    ·rw [hbit] at hq
     rw [hq, if_neg (by decide), List.append_nil] at hsn
     repeat refine zq ?_
     refine zr ?_; conv => whnf
     refine ⟨⟨by omega, by omega⟩, ?_⟩; conv => whnf
     refine At.nextH fun w' hw => ⟨p + 1, by omega, by omega, Le.of rfl rfl ⟨rfl, rfl, rfl, rfl, rfl, rfl, congrArg (Value.int .i64) (by rw [hsn]), rfl, rfl, trivial⟩, hw.keep [0] rfl rfl rfl, ⟨⟨_, _, _, rfl⟩, trivial⟩, ⟨(nopI _).okH, trivial⟩⟩
   ·have hge : p = K.length := by have := of_decide_eq_false hc; omega
    subst hge
    repeat refine zq ?_
    refine zr ?_; conv => whnf
    repeat refine zq ?_
    refine At.block ?_
    refine At.loopH (fun j : Nat => { N := Tryz.f3.ntmps, sl := [(0, some (.x pv)), (1, some (.x mv)), (5, some (.b true)), (6, some (.s (.c (.o 0 vl)))), (7, some (.b ok)), (9, some (.i s)), (10, some (.i ((bitsTo s K.length).length))), (11, some (.b (((marks.take j).all fun m => (bitsTo s K.length).any (knowsB K m))))), (13, some (.i j))], gl := [], hp := [(0, .row vl 3 1 (l.map encI))], S := [], ws := w }) (fun j : Nat => j ≤ marks.length) (fun j : Nat => marks.length - j)
     (fun w' hw => ⟨0, Nat.zero_le _, Le.of rfl rfl ⟨rfl, rfl, rfl, rfl, rfl, rfl, rfl, rfl, rfl, trivial⟩, hw.keep [0] rfl rfl rfl, ⟨⟨_, _, _, rfl⟩, trivial⟩, ⟨(nopI _).okH, trivial⟩⟩) ?_
    intro j hj
    repeat refine zq ?_
    refine zr ?_; conv => whnf
    refine ⟨hm.sl, ?_⟩; conv => whnf
    repeat refine zq ?_
    refine At.cond rfl (fun hc => At.skip ?_) (fun hc => At.exit ?_)
    ·have hjl : j < marks.length := by have := of_decide_eq_true hc; omega
     obtain ⟨m, hmj⟩ : ∃ m, marks[j]? = some m := ⟨_, List.getElem?_eq_getElem hjl⟩
     have hall : (marks.take (j + 1)).all (fun m => (bitsTo s K.length).any (knowsB K m)) = ((marks.take j).all (fun m => (bitsTo s K.length).any (knowsB K m)) && (bitsTo s K.length).any (knowsB K m)) := by rw [take_snoc hmj, List.all_append]; simp
     generalize (marks.take j).all (fun m => (bitsTo s K.length).any (knowsB K m)) = A at hall ⊢
     repeat refine zq ?_
     refine At.block ?_
     repeat refine zq ?_
     refine zr ?_; conv => whnf
     repeat refine zq ?_
     refine zr ?_; conv => whnf
     repeat refine zq ?_
     refine At.block ?_
     refine At.loopH (fun p : Nat => { N := Tryz.f3.ntmps, sl := [(0, some (.x pv)), (1, some (.x mv)), (5, some (.b true)), (6, some (.s (.c (.o 0 vl)))), (7, some (.b ok)), (9, some (.i s)), (10, some (.i ((bitsTo s K.length).length))), (11, some (.b A)), (13, some (.i j)), (14, some (.b (((bitsTo s p).any (knowsB K m))))), (15, some (.i p))], gl := [], hp := [(0, .row vl 3 1 (l.map encI))], S := [], ws := w }) (fun p : Nat => p ≤ K.length) (fun p : Nat => K.length - p)
      (fun w' hw => ⟨0, Nat.zero_le _, Le.of rfl rfl ⟨rfl, rfl, rfl, rfl, rfl, rfl, rfl, rfl, rfl, rfl, rfl, trivial⟩, hw.keep [0] rfl rfl rfl, ⟨⟨_, _, _, rfl⟩, trivial⟩, ⟨(nopI _).okH, trivial⟩⟩) ?_
     intro p hp
     repeat refine zq ?_
     refine zr ?_; conv => whnf
     refine ⟨hK.sl, ?_⟩; conv => whnf
     repeat refine zq ?_
     refine At.cond rfl (fun hc => At.skip ?_) (fun hc => At.exit ?_)
     ·have hpl : p < K.length := by have := of_decide_eq_true hc; omega
      obtain ⟨x, hx⟩ : ∃ x, K[p]? = some x := ⟨_, List.getElem?_eq_getElem hpl⟩
      obtain ⟨_, ⟨u, rfl, hu⟩, hc2⟩ := hK.at hx
      have hbit := bitI s p (by omega)
      have hany : (bitsTo s (p + 1)).any (knowsB K m) = ((bitsTo s p).any (knowsB K m) || (s.testBit p && hasI x m)) := by
       rw [bitsTo_snoc, List.any_append]
       cases s.testBit p <;> simp [knowsB, List.getD_eq_getElem?_getD, hx]
      repeat refine zq ?_
      refine At.block ?_
      repeat refine zq ?_
      refine At.draw tab_ok mixed (by kernel_rfl) ?_; conv => whnf
      refine ⟨gimp1 fun _ => by omega, ?_⟩; conv => whnf
      refine ⟨gimp1 fun _ => by omega, ?_⟩; conv => whnf
      refine ⟨gimp_of (by omega), ?_⟩; conv => whnf
      refine ⟨gimp_of (by omega), ?_⟩; conv => whnf
      refine ⟨[.x u], gimp_of (fun w' hw => hc2 w' hw.fr), ?_⟩; conv => whnf
      refine ⟨gimp_of (by omega), ?_⟩; conv => whnf
      refine ⟨gimp_of (by omega), ?_⟩; conv => whnf
      refine ⟨[.i m], gimp_of (fun w' hw => hm.load (n := 1) hw.fr hmj rfl), ?_⟩; conv => whnf
      refine ⟨.b (x.any fun y => decide (y = m)), gimp_of (ans_quiet b7 (fun w' hw => refHas_c x m [] u w' (hu.fr hw.fr))), ?_⟩; conv => whnf
      repeat refine zq ?_
      refine zr ?_; conv => whnf
      refine ⟨⟨by omega, by omega⟩, ?_⟩; conv => whnf
      refine At.nextH fun w' hw => ⟨p + 1, by omega, by omega, Le.of rfl rfl ⟨rfl, rfl, rfl, rfl, rfl, rfl, rfl, rfl, rfl, congrArg Value.bool (by rw [hbit, has_eq, hany, band, bor]), rfl, trivial⟩, hw.keep [0] rfl rfl rfl, ⟨⟨_, _, _, rfl⟩, trivial⟩, ⟨(nopI _).okH, trivial⟩⟩
     ·have hge : p = K.length := by have := of_decide_eq_false hc; omega
      subst hge
      repeat refine zq ?_
      refine zr ?_; conv => whnf
      repeat refine zq ?_
      refine zr ?_; conv => whnf
      refine ⟨⟨by omega, by omega⟩, ?_⟩; conv => whnf
      refine At.nextH fun w' hw => ⟨j + 1, by omega, by omega, Le.of rfl rfl ⟨rfl, rfl, rfl, rfl, rfl, rfl, rfl, congrArg Value.bool (by rw [hall, band]), rfl, trivial⟩, hw.keep [0] rfl rfl rfl, ⟨⟨_, _, _, rfl⟩, trivial⟩, ⟨(nopI _).okH, trivial⟩⟩
    ·have hge : j = marks.length := by have := of_decide_eq_false hc; omega
     subst hge
     have hgd : (marks.take marks.length).all (fun m => (bitsTo s K.length).any (knowsB K m)) = goodB K marks (bitsTo s K.length) := by rw [List.take_length]; rfl
     have hlst := hAok.least s hsl
     rw [hgd]
     generalize goodB K marks (bitsTo s K.length) = gd at hlst ⊢
     repeat refine zq ?_
     refine zr ?_; conv => whnf
     refine ⟨by simp only [gimp]; intros; trivial, ?_⟩; conv => whnf
     repeat refine zq ?_
     refine At.cond rfl (fun hq => ?_) (fun hq => At.skip ?_)
     ·exfalso
      cases gd with
      | false => simp at hq
      | true =>
       obtain ⟨h1, h2⟩ := hlst rfl
       subst h1
       simp at hq
       omega
     ·repeat refine zq ?_
      refine zr ?_; conv => whnf
      refine ⟨⟨by omega, by omega⟩, ?_⟩; conv => whnf
      refine At.nextH fun w' hw => ⟨s + 1, by omega, by omega, Le.of rfl rfl ⟨rfl, rfl, rfl, rfl, rfl, rfl, trivial⟩, hw.keep [0] rfl rfl rfl, ⟨⟨_, _, _, rfl⟩, trivial⟩, ⟨(nopI _).okH, trivial⟩⟩
  ·have hge : s = 2 ^ K.length := by have := of_decide_eq_false hc; rw [hsh] at this; omega
   repeat refine zq ?_
   refine zr ?_; conv => whnf
   repeat refine zq ?_
   refine At.block ?_
   refine At.loopH (fun j : Nat => { N := Tryz.f3.ntmps, sl := [(0, some (.x pv)), (1, some (.x mv)), (5, some (.b true)), (6, some (.s (.c (.o 0 vl)))), (7, some (.b ok)), (16, some (.i j))], gl := [], hp := [(0, .row vl 3 1 (l.map encI))], S := [], ws := w }) (fun j : Nat => j ≤ marks.length) (fun j : Nat => marks.length - j)
    (fun w' hw => ⟨0, Nat.zero_le _, Le.of rfl rfl ⟨rfl, rfl, rfl, rfl, rfl, rfl, trivial⟩, hw.keep [0] rfl rfl rfl, ⟨⟨_, _, _, rfl⟩, trivial⟩, ⟨(nopI _).okH, trivial⟩⟩) ?_
   intro j hj
   repeat refine zq ?_
   refine zr ?_; conv => whnf
   refine ⟨hm.sl, ?_⟩; conv => whnf
   repeat refine zq ?_
   refine At.cond rfl (fun hc => At.skip ?_) (fun hc => At.exit ?_)
   ·have hjl : j < marks.length := by have := of_decide_eq_true hc; omega
    obtain ⟨m, hmj⟩ : ∃ m, marks[j]? = some m := ⟨_, List.getElem?_eq_getElem hjl⟩
    have hgood : ok = true → l.any (knowsB K m) = true := fun h => hAok.good h m (List.mem_of_getElem? hmj)
    repeat refine zq ?_
    refine At.block ?_
    repeat refine zq ?_
    refine zr ?_; conv => whnf
    repeat refine zq ?_
    refine zr ?_; conv => whnf
    repeat refine zq ?_
    refine At.block ?_
    refine At.loopH (fun k : Nat => { N := Tryz.f3.ntmps, sl := [(0, some (.x pv)), (1, some (.x mv)), (5, some (.b true)), (6, some (.s (.c (.o 0 vl)))), (7, some (.b ok)), (16, some (.i j)), (17, some (.b (((l.take k).any (knowsB K m))))), (18, some (.i k))], gl := [], hp := [(0, .row vl 3 1 (l.map encI))], S := [], ws := w }) (fun k : Nat => k ≤ l.length) (fun k : Nat => l.length - k)
     (fun w' hw => ⟨0, Nat.zero_le _, Le.of rfl rfl ⟨rfl, rfl, rfl, rfl, rfl, rfl, rfl, rfl, trivial⟩, hw.keep [0] rfl rfl rfl, ⟨⟨_, _, _, rfl⟩, trivial⟩, ⟨(nopI _).okH, trivial⟩⟩) ?_
    intro k hk
    repeat refine zq ?_
    refine zr ?_; conv => whnf
    refine ⟨rfl, ?_⟩; conv => whnf
    repeat refine zq ?_
    refine At.cond rfl (fun hc => At.skip ?_) (fun hc => At.exit ?_)
    ·have hkl : k < l.length := by have := of_decide_eq_true hc; simp only [List.length_map] at this; omega
     obtain ⟨y, hy⟩ : ∃ y, l[k]? = some y := ⟨_, List.getElem?_eq_getElem hkl⟩
     have hym := hAok.mem y (List.mem_of_getElem? hy)
     obtain ⟨x, hx⟩ : ∃ x, K[y.toNat]? = some x := ⟨_, List.getElem?_eq_getElem (by omega)⟩
     obtain ⟨_, ⟨u, rfl, hu⟩, hc2⟩ := hK.at hx
     rw [show ((y.toNat : Nat) : Int) = y by omega] at hc2
     have hany : (l.take (k + 1)).any (knowsB K m) = ((l.take k).any (knowsB K m) || hasI x m) := by
      rw [take_snoc hy, List.any_append]
      simp [knowsB, List.getD_eq_getElem?_getD, hx]
     repeat refine zq ?_
     refine At.block ?_
     repeat refine zq ?_
     refine At.draw tab_ok mixed (by kernel_rfl) ?_; conv => whnf
     refine ⟨gimp_of rfl, ?_⟩; conv => whnf
     refine ⟨gimp_of (by omega), ?_⟩; conv => whnf
     refine ⟨gimp_of (by rw [List.length_map]; omega), ?_⟩; conv => whnf
     refine ⟨encI y, gimp_of ⟨rfl, rfl, by omega, by rw [Int.toNat_natCast, List.getElem?_map, hy]; rfl⟩, ?_⟩; conv => whnf
     refine ⟨gimp_of (by omega), ?_⟩; conv => whnf
     refine ⟨gimp_of (by omega), ?_⟩; conv => whnf
     refine ⟨[.x u], gimp_of (fun w' hw => hc2 w' hw.fr), ?_⟩; conv => whnf
     refine ⟨gimp_of (by omega), ?_⟩; conv => whnf
     refine ⟨gimp_of (by omega), ?_⟩; conv => whnf
     refine ⟨[.i m], gimp_of (fun w' hw => hm.load (n := 1) hw.fr hmj rfl), ?_⟩; conv => whnf
     refine ⟨.b (x.any fun z => decide (z = m)), gimp_of (ans_quiet b7 (fun w' hw => refHas_c x m [] u w' (hu.fr hw.fr))), ?_⟩; conv => whnf
     repeat refine zq ?_
     refine zr ?_; conv => whnf
     refine ⟨⟨by omega, by omega⟩, ?_⟩; conv => whnf
     refine At.nextH fun w' hw => ⟨k + 1, by omega, by omega, Le.of rfl rfl ⟨rfl, rfl, rfl, rfl, rfl, rfl, congrArg Value.bool (by rw [has_eq, hany, bor]), rfl, trivial⟩, hw.keep [0] rfl rfl rfl, ⟨⟨_, _, _, rfl⟩, trivial⟩, ⟨(nopI _).okH, trivial⟩⟩
    ·have hge : k = l.length := by have := of_decide_eq_false hc; simp only [List.length_map] at this; omega
     subst hge
     rw [List.take_length]
     repeat refine zq ?_
     refine zr ?_; conv => whnf
     repeat refine zq ?_
     refine At.cond rfl (fun hq => ?_) (fun hq => At.skip ?_)
     ·exfalso
      cases ok with
      | false => simp at hq
      | true => rw [hgood rfl] at hq; simp at hq
     ·repeat refine zq ?_
      refine zr ?_; conv => whnf
      refine ⟨⟨by omega, by omega⟩, ?_⟩; conv => whnf
      refine At.nextH fun w' hw => ⟨j + 1, by omega, by omega, Le.of rfl rfl ⟨rfl, rfl, rfl, rfl, rfl, rfl, trivial⟩, hw.keep [0] rfl rfl rfl, ⟨⟨_, _, _, rfl⟩, trivial⟩, ⟨(nopI _).okH, trivial⟩⟩
   ·repeat refine zq ?_
    refine zr ?_; conv => whnf
    refine ⟨by simp only [gimp]; intros; trivial, ?_⟩; conv => whnf
    repeat refine zq ?_
    refine At.ret (At.doneB tab_ok hB _ rfl fun w' hw => ⟨?_, hw.fr⟩)
    cases ok with
    | true => rfl
    | false => rw [hAok.nil rfl]; rfl
end Go.Proofs.YtgpgbiklefkjjaaGreatDoor
namespace Go.Proofs
open Go.Shelf
def Tryz.keysA_ren : Go.Shelf.Ren := ⟨fun | 7 => 43 | 10 => 87 | n => n, fun | 23 => 85 | 26 => 3 | 3 => 4 | 28 => 94 | 0 => 0 | 27 => 93 | 33 => 57 | 4 => 4 | n => n, fun | n => n⟩
theorem Tryz.keysA : Go.Proofs.SlLaysZI.n7 Tryz.prog Tryz.keysA_ren := {
 mixed := by kernel_rfl
 f7 := ⟨Tryz.f43.name, by decide, Tryz.func43.trans (congrArg some (by kernel_rfl))⟩
 f10 := ⟨Tryz.f87.name, by decide, Tryz.func87.trans (congrArg some (by kernel_rfl))⟩
 t0 := Tryz.underlying0
 a0 := Tryz.isAgg0
 z0 := Tryz.sizeOf0
 v0 := Tryz.zeroValue0
 t4 := Tryz.underlying4
 a4 := Tryz.isAgg4
 z4 := Tryz.sizeOf4
 v4 := Tryz.zeroValue4
 t23 := Tryz.underlying85
 a23 := Tryz.isAgg85
 z23 := Tryz.sizeOf85
 v23 := Tryz.zeroValue85
 t26 := Tryz.underlying3
 a26 := Tryz.isAgg3
 z26 := Tryz.sizeOf3
 v26 := Tryz.zeroValue3
 t27 := Tryz.underlying93
 a27 := Tryz.isAgg93
 z27 := Tryz.sizeOf93
 v27 := Tryz.zeroValue93
 t28 := Tryz.underlying94
 a28 := Tryz.isAgg94
 z28 := Tryz.sizeOf94
 v28 := Tryz.zeroValue94
 t33 := Tryz.underlying57
 a33 := Tryz.isAgg57
 z33 := Tryz.sizeOf57
 v33 := Tryz.zeroValue57 }
def Tryz.sortedA_ren : Go.Shelf.Ren := ⟨fun | 6 => 42 | 8 => 86 | 9 => 64 | 11 => 131 | 13 => 82 | 12 => 101 | 23 => 129 | 24 => 130 | 14 => 137 | 15 => 138 | 16 => 139 | 17 => 140 | 18 => 141 | 19 => 142 | 20 => 143 | 21 => 144 | 22 => 145 | 25 => 169 | 26 => 154 | 27 => 155 | 28 => 170 | 29 => 171 | 30 => 100 | 31 => 193 | n => n, fun | 26 => 3 | 28 => 94 | 24 => 23 | 0 => 0 | 3 => 3 | 37 => 54 | 48 => 114 | 50 => 116 | 4 => 4 | 40 => 167 | 39 => 166 | 45 => 121 | 5 => 5 | 9 => 9 | 51 => 192 | 55 => 196 | 57 => 212 | 58 => 213 | 33 => 57 | n => n, fun | n => n⟩
theorem Tryz.sortedA : Go.Proofs.SlLaysZI.n6 Tryz.prog Tryz.sortedA_ren := {
 mixed := by kernel_rfl
 f6 := ⟨Tryz.f42.name, by decide, Tryz.func42.trans (congrArg some (by kernel_rfl))⟩
 f8 := ⟨Tryz.f86.name, by decide, Tryz.func86.trans (congrArg some (by kernel_rfl))⟩
 f11 := ⟨Tryz.f131.name, by decide, Tryz.func131.trans (congrArg some (by kernel_rfl))⟩
 t0 := Tryz.underlying0
 a0 := Tryz.isAgg0
 z0 := Tryz.sizeOf0
 v0 := Tryz.zeroValue0
 t24 := Tryz.underlying23
 a24 := Tryz.isAgg23
 z24 := Tryz.sizeOf23
 v24 := Tryz.zeroValue23
 t26 := Tryz.underlying3
 a26 := Tryz.isAgg3
 z26 := Tryz.sizeOf3
 v26 := Tryz.zeroValue3
 t28 := Tryz.underlying94
 a28 := Tryz.isAgg94
 z28 := Tryz.sizeOf94
 v28 := Tryz.zeroValue94
 i26 := by kernel_rfl }
def Tryz.sortA_ren : Go.Shelf.Ren := ⟨fun | 5 => 64 | 8 => 82 | 7 => 101 | 19 => 129 | 20 => 130 | 10 => 137 | 11 => 138 | 12 => 139 | 13 => 140 | 14 => 141 | 15 => 142 | 16 => 143 | 17 => 144 | 18 => 145 | 30 => 169 | 31 => 154 | 32 => 155 | 33 => 170 | 34 => 171 | 35 => 100 | 40 => 193 | n => n, fun | 23 => 23 | 25 => 3 | 3 => 3 | 32 => 54 | 22 => 23 | 0 => 0 | 44 => 114 | 46 => 116 | 4 => 4 | 36 => 167 | 35 => 166 | 41 => 121 | 5 => 5 | 9 => 9 | 53 => 192 | 57 => 196 | 63 => 212 | 64 => 213 | n => n, fun | n => n⟩
theorem Tryz.sortA : Go.Proofs.SlLaysM.n5 Tryz.prog Tryz.sortA_ren := {
 mixed := by kernel_rfl
 f5 := ⟨Tryz.f64.name, by decide, Tryz.func64.trans (congrArg some (by kernel_rfl))⟩
 f7 := ⟨Tryz.f101.name, by decide, Tryz.func101.trans (congrArg some (by kernel_rfl))⟩
 f8 := Tryz.func82.trans (congrArg some (by kernel_rfl))
 f10 := ⟨Tryz.f137.name, by decide, Tryz.func137.trans (congrArg some (by kernel_rfl))⟩
 f11 := ⟨Tryz.f138.name, by decide, Tryz.func138.trans (congrArg some (by kernel_rfl))⟩
 f12 := ⟨Tryz.f139.name, by decide, Tryz.func139.trans (congrArg some (by kernel_rfl))⟩
 f13 := ⟨Tryz.f140.name, by decide, Tryz.func140.trans (congrArg some (by kernel_rfl))⟩
 f14 := ⟨Tryz.f141.name, by decide, Tryz.func141.trans (congrArg some (by kernel_rfl))⟩
 f15 := ⟨Tryz.f142.name, by decide, Tryz.func142.trans (congrArg some (by kernel_rfl))⟩
 f16 := ⟨Tryz.f143.name, by decide, Tryz.func143.trans (congrArg some (by kernel_rfl))⟩
 f17 := ⟨Tryz.f144.name, by decide, Tryz.func144.trans (congrArg some (by kernel_rfl))⟩
 f18 := ⟨Tryz.f145.name, by decide, Tryz.func145.trans (congrArg some (by kernel_rfl))⟩
 f19 := Tryz.func129.trans (congrArg some (by kernel_rfl))
 f20 := Tryz.func130.trans (congrArg some (by kernel_rfl))
 f30 := ⟨Tryz.f169.name, by decide, Tryz.func169.trans (congrArg some (by kernel_rfl))⟩
 f31 := Tryz.func154.trans (congrArg some (by kernel_rfl))
 f32 := Tryz.func155.trans (congrArg some (by kernel_rfl))
 f33 := ⟨Tryz.f170.name, by decide, Tryz.func170.trans (congrArg some (by kernel_rfl))⟩
 f34 := ⟨Tryz.f171.name, by decide, Tryz.func171.trans (congrArg some (by kernel_rfl))⟩
 f35 := ⟨Tryz.f100.name, by decide, Tryz.func100.trans (congrArg some (by kernel_rfl))⟩
 f40 := ⟨Tryz.f193.name, by decide, Tryz.func193.trans (congrArg some (by kernel_rfl))⟩
 t0 := Tryz.underlying0
 a0 := Tryz.isAgg0
 z0 := Tryz.sizeOf0
 v0 := Tryz.zeroValue0
 t3 := Tryz.underlying3
 a3 := Tryz.isAgg3
 z3 := Tryz.sizeOf3
 v3 := Tryz.zeroValue3
 t4 := Tryz.underlying4
 a4 := Tryz.isAgg4
 z4 := Tryz.sizeOf4
 v4 := Tryz.zeroValue4
 t5 := Tryz.underlying5
 a5 := Tryz.isAgg5
 z5 := Tryz.sizeOf5
 v5 := Tryz.zeroValue5
 t9 := Tryz.underlying9
 a9 := Tryz.isAgg9
 z9 := Tryz.sizeOf9
 v9 := Tryz.zeroValue9
 t22 := Tryz.underlying23
 a22 := Tryz.isAgg23
 z22 := Tryz.sizeOf23
 v22 := Tryz.zeroValue23
 t23 := Tryz.underlying23
 a23 := Tryz.isAgg23
 z23 := Tryz.sizeOf23
 v23 := Tryz.zeroValue23
 t25 := Tryz.underlying3
 a25 := Tryz.isAgg3
 z25 := Tryz.sizeOf3
 v25 := Tryz.zeroValue3
 t32 := Tryz.underlying54
 a32 := Tryz.isAgg54
 z32 := Tryz.sizeOf54
 v32 := Tryz.zeroValue54
 t35 := Tryz.underlying166
 a35 := Tryz.isAgg166
 z35 := Tryz.sizeOf166
 v35 := Tryz.zeroValue166
 t36 := Tryz.underlying167
 a36 := Tryz.isAgg167
 z36 := Tryz.sizeOf167
 v36 := Tryz.zeroValue167
 t41 := Tryz.underlying121
 a41 := Tryz.isAgg121
 z41 := Tryz.sizeOf121
 v41 := Tryz.zeroValue121
 t44 := Tryz.underlying114
 a44 := Tryz.isAgg114
 z44 := Tryz.sizeOf114
 v44 := Tryz.zeroValue114
 t46 := Tryz.underlying116
 a46 := Tryz.isAgg116
 z46 := Tryz.sizeOf116
 v46 := Tryz.zeroValue116
 t53 := Tryz.underlying192
 a53 := Tryz.isAgg192
 z53 := Tryz.sizeOf192
 v53 := Tryz.zeroValue192
 t57 := Tryz.underlying196
 a57 := Tryz.isAgg196
 z57 := Tryz.sizeOf196
 v57 := Tryz.zeroValue196
 t63 := Tryz.underlying212
 a63 := Tryz.isAgg212
 z63 := Tryz.sizeOf212
 v63 := Tryz.zeroValue212
 t64 := Tryz.underlying213
 a64 := Tryz.isAgg213
 z64 := Tryz.sizeOf213
 v64 := Tryz.zeroValue213 }
end Go.Proofs
namespace Go.Proofs.YtgpgbiklefkjjaaGreatDoor
open Go.Vc Rt Go.Bs
def vB (b : Bool) : Value := .bool b
theorem u4 : Tryz.prog.underlying 4 = some .bool := by kernel_rfl
theorem um85 : Tryz.prog.underlying 85 = some (.map 3 4) := by kernel_rfl
theorem z4 (w : World) : (zeroValue 4).run Tryz.prog w = .ok (CV.b false).den w := by kernel_rfl
theorem wf_i64 {n : Int} (h : iR n) : (Lit.int IntKind.i64 n).wf = true := by
 have h1 : (IntKind.i64).min = -9223372036854775808 := by decide
 have h2 : (IntKind.i64).max = 9223372036854775807 := by decide
 simp only [Lit.wf, h1, h2, Bool.and_eq_true, decide_eq_true_eq]; exact h
theorem sortsA (m : Nat) : AnyZI.SortsIn Tryz.prog Tryz.sortedA_ren Fence.wide m :=
 ⟨fun blk off cap ss W hH hblk hsz => callsIn_wide.2 (AnyM.slices_Sort_int Tryz.sortA blk off cap ss W hH hblk hsz),
  fun p cap W => callsIn_wide.2 (AnyM.slices_Sort_int_none Tryz.sortA p cap W)⟩
theorem insert_perm {H : Type} (x : Lit × DataW H) : ∀ l : List (Lit × DataW H), (DataW.insert x l).Perm (x :: l)
 | [] => .refl _
 | y :: r => by
  unfold DataW.insert
  split
  ·exact .refl _
  ·exact ((insert_perm x r).cons y).trans (.swap ..)
theorem foldr_insert_perm {H : Type} : ∀ l : List (Lit × DataW H), (l.foldr DataW.insert []).Perm l
 | [] => .refl _
 | x :: r => (insert_perm x _).trans ((foldr_insert_perm r).cons x)
theorem rg_val {H : Type} {x : MapEntry} {n : Int} {b : Bool} (hk : x.key = .int .i64 n) (hv : x.val = .bool b) (hn : iR n) : Go.WideElems.rd (H := H) Tryz.prog 3 (plainElem Tryz.prog 4) x = some (.int .i64 n, .lit (.bool b)) := by
 unfold Go.WideElems.rd
 rw [hk, hv, Maps.keyOf_int_mk u3 (wf_i64 hn), plainElem_bool u4]
 rfl
theorem owns_of {H : Type} {w : World} {m : Nat} {L : List (Int × Bool)} (h : MapAt vI vB w m L) (hL : ∀ p ∈ L, iR p.1) (hl : L.length ≤ 1000000) : ∃ D : DataW H, _root_.Go.World.ownsMap w Tryz.prog 3 (plainElem Tryz.prog 4) m L.length D ∧ (_root_.Go.intKeys D).Perm (L.map (·.1)) ∧ Maps.size D = L.length := by
 obtain ⟨es, clock, h1, h2, h3⟩ := h
 have hsz : es.size = L.length := by have := congrArg List.length h3; simpa using this
 have hget : ∀ x ∈ es.toList, ∃ p ∈ L, x.key = .int .i64 p.1 ∧ x.val = .bool p.2 := fun x hx => by
  obtain ⟨j, hj⟩ := List.getElem?_of_mem hx
  obtain ⟨p, hp, e1, e2⟩ := entry_get h3 hj
  exact ⟨p, List.mem_of_getElem? hp, e1, e2⟩
 have hrd : ∀ x ∈ es.toList, ∃ p ∈ L, x.key = .int .i64 p.1 ∧ Go.WideElems.rd (H := H) Tryz.prog 3 (plainElem Tryz.prog 4) x = some (.int .i64 p.1, .lit (.bool p.2)) := fun x hx => by
  obtain ⟨p, hp, e1, e2⟩ := hget x hx
  exact ⟨p, hp, e1, rg_val e1 e2 (hL p hp)⟩
 have hkeys : (es.toList.map (Go.WideElems.rg (H := H) Tryz.prog 3 (plainElem Tryz.prog 4))).map (fun p => _root_.Go.intOf p.1) = L.map (·.1) := by
  have e1 : L.map (·.1) = es.toList.map (fun x => match x.key with | .int _ n => n | _ => 0) := by
   have := congrArg (List.map (fun p : Value × Value => match p.1 with | .int _ n => n | _ => 0)) h3
   simp only [List.map_map] at this
   rw [show (L.map (·.1)) = L.map ((fun p : Value × Value => match p.1 with | .int _ n => n | _ => 0) ∘ fun p => (vI p.1, vB p.2)) from List.map_congr_left fun p _ => rfl, ← this]
   exact List.map_congr_left fun x _ => rfl
  rw [e1, List.map_map]
  refine List.map_congr_left fun x hx => ?_
  obtain ⟨p, hp, e2, e3⟩ := hrd x hx
  simp only [Function.comp_apply, Go.WideElems.rg, e3, Option.getD_some, e2, _root_.Go.intOf]
 refine ⟨.map ((es.toList.map (Go.WideElems.rg Tryz.prog 3 (plainElem Tryz.prog 4))).foldr DataW.insert []), ⟨es, clock, h1, ⟨by rw [hsz]; unfold maxLen; omega, h2, fun x hx => by obtain ⟨p, _, _, e⟩ := hrd x hx; exact ⟨_, e⟩⟩, Nat.le_of_eq hsz, rfl⟩, ?_, ?_⟩
 ·rw [← hkeys]
  exact (foldr_insert_perm _).map _
 ·show (List.foldr DataW.insert [] _).length = _
  rw [(foldr_insert_perm _).length_eq, List.length_map, Array.length_toList, hsz]
theorem mapKeys_c (m : Nat) (w : World) : Calls Tryz.prog 43 #[.map (some m)] w (fun e w' => ∃ b, e = .returned (.func (.func 87) #[] #[ptr b]) ∧ w'.heap[b]? = some (.cells #[.map (some m)] 85 (0, 0)) ∧ w.heap.size ≤ b ∧ Ext w w') := by
 have h : CallsIn Fence.wide 5 Tryz.prog 43 #[.map (some m)] w fun e w' => e = .returned (.func (.func 87) #[] #[.pointer (some ⟨w.heap.size, 0, none⟩)]) ∧ w' = w.alloc (.cells #[.map (some m)] 85) := AnyZI.keys_in Tryz.keysA Fence.wide 5 trivial rfl (some m) w
 refine (callsIn_wide.1 h).mono ?_
 rintro e w' ⟨rfl, rfl⟩
 refine ⟨w.heap.size, rfl, ?_, Nat.le_refl _, (Fr.refl [] w).alloc _⟩
 show (w.heap.push _)[w.heap.size]? = _
 simp
theorem sorted_c (m b : Nat) (L : List (Int × Bool)) (w : World) (h : MapAt vI vB w m L) (hL : ∀ p ∈ L, iR p.1) (hl : L.length ≤ 1000000) (hb : SlOf vT1 [] w (hs b) [.map (some m)]) :
  AnsR Tryz.prog 42 [.func (.func 87) #[] #[ptr b]] [.row 3 1 ((sortI (L.map (·.1))).map encI)] w := by
 obtain ⟨D, hown, hperm, hsz⟩ := owns_of (H := Unit) h hL hl
 have hlt : b < w.heap.size := (hb.av _ _ _ rfl (by simp)).2
 have hcell : w.cell? ⟨b, 0, none⟩ = some (.map (some m)) := by
  obtain ⟨l, h1, h2⟩ := hb.elem 0 _ rfl
  cases h1
  exact h2 _ _ _ rfl 0 _ rfl
 have hseq : SeqGives Fence.wide 2 Tryz.prog 87 #[.pointer (some ⟨b, 0, none⟩)] encZ (fun ss => ss.Perm (_root_.Go.intKeys D)) (Maps.size D) w := AnyZI.keys_gives (ρ := Tryz.keysA_ren) { Tryz.keysA with } Fence.wide _ trivial rfl (by omega) b m L.length D w hlt hcell hown
 have cS := AnyZI.sorted_in Tryz.sortedA Fence.wide 5 trivial trivial trivial trivial rfl (by omega) (sortsA _) (enters_of Tryz.func64 (by kernel_rfl) rfl) 87 #[.pointer (some ⟨b, 0, none⟩)] trivial (enters_of Tryz.func87 (by kernel_rfl) rfl) _ _ (by rw [hsz]; unfold maxLen; omega) (by rw [hsz]; omega) w hseq
 change CallsIn _ _ Tryz.prog 42 _ _ _ at cS
 refine (callsIn_wide.1 cS).mono ?_
 rintro e w' ⟨v, ss, rfl, hS, hrow, hnil, hbel⟩
 have hp : ss.Perm (L.map (·.1)) := hS.trans hperm
 have hso : ss.mergeSort (fun x y => decide (x ≤ y)) = sortI (L.map (·.1)) := mergeSort_of_perm_i hp
 have hln : ss.length = (sortI (L.map (·.1))).length := by rw [sortI_len, hp.length_eq]
 rw [hso, hln] at hrow
 obtain ⟨hr1, hr2⟩ := hrow
 refine ⟨[v], rfl, ⟨⟨⟨by rw [densI]; simp, ?_⟩, fun l hl => by obtain ⟨x, _, rfl⟩ := List.mem_map.1 hl; rfl⟩, fun x hx => ?_, fun u hu => (by cases hu), rfl⟩, Ext.of_below hbel⟩
 ·rcases hr2 with ⟨e1, e2⟩ | ⟨g, cap, cur, e1, hg, hh, hc1, hc2, hc3, hc4⟩
  ·exact .inl ⟨e1, by rw [List.length_map]; exact e2⟩
  ·refine .inr ⟨g, 0, cap, cur, by rw [List.length_map]; exact e1, hh, by rw [List.length_map]; exact hc1, hc2, by omega, ?_⟩
   rw [densI, List.drop_zero, List.length_map]
   exact hc4
 ·rcases hr2 with ⟨e1, e2⟩ | ⟨g, cap, cur, e1, hg, hh, hc1, hc2, hc3, hc4⟩
  ·rw [e1] at hx; simp [blkOf] at hx
  ·rw [e1] at hx
   simp only [blkOf, List.mem_singleton] at hx
   rw [hx]; exact hg
end Go.Proofs.YtgpgbiklefkjjaaGreatDoor
namespace Go.Proofs.YtgpgbiklefkjjaaGreatDoor
open Go.Vc Rt Go.Bs
set_option maxHeartbeats 1000000
def firstB (N : List Nd) (c : Span) : List Int := pairB N false (spentB N c)
def forkB (R : List SK) (N : List Nd) (c : Span) : List Int := pairB (restrictB R N (firstB N c)) true (withB (restrictB R N (firstB N c)) (marksB (restrictB R N (firstB N c))) c)
def explB (R : List SK) (N : List Nd) (right : Bool) (c : Span) : List Int := if decide ((firstB N c).length = 0) || !right then [] else forkB R N c
theorem pairB_len (N : List Nd) (one : Bool) : ∀ l : List Int, (pairB N one l).length ≤ 2
 | [] => by simp [pairB]
 | a :: r => by
  unfold pairB
  split
  ·simp
  ·exact pairB_len N one r
theorem explain_r (h rb : Nat) (N : List Nd) (hN : NOk N) (R : List SK) (ks : List Int) (liars seed : Int) (sv : Value) (c : Span) (w : World) (hG : Gl w) (H : HR [] w h rb N) (hR : RgR [] w rb R) (hs : SlOf intT [] w sv ks) (hkl : ks.length ≤ 1000000)
  (hne : (firstB N c).length ≠ 0 → rightS ks liars seed = true → (forkB R N c).length ≠ 0) :
  AnsR Tryz.prog 20 [ptr h, vSt sv liars seed, vS c] [.row 3 1 ((explB R N (rightS ks liars seed) c).map encI)] w := by
 have hNl := hN.len
 have hspl := spentB_len N c
 have hfl := pairB_len N false (spentB N c)
 have hNr := nok_restrict (R := R) (marks := firstB N c) hN
 have hNrl := hNr.len
 have hmrl := marksB_len (restrictB R N (firstB N c))
 have hwl : (withB (restrictB R N (firstB N c)) (marksB (restrictB R N (firstB N c))) c).length ≤ (marksB (restrictB R N (firstB N c))).length := List.length_filter_le _ _
 refine calls_e [.x (ptr h), .s (.agg [.x sv, .i liars, .i seed]), .s (.agg (encS c))] Tryz.func20 rfl rfl (Nat.le_of_ble_eq_true rfl) trivial fun B hB => ?_
 repeat refine zq ?_
 refine zr ?_; conv => whnf
 refine ⟨hs.one, ?_⟩; conv => whnf
 intro b4; conv => whnf
 intro b5; conv => whnf
 repeat refine zq ?_
 refine zr ?_; conv => whnf
 refine ansR_call b19 (rd1 (nopI _)) (fun w' hw => spent_r h rb N hN c w' (H.ext hw.fr)) ?_
 intro v2; conv => whnf
 refine ansR_call b51 (rd1 (nopI _)) (fun w' hw => pair_r h rb N hN (spentB N c) false v2 [] w' (slI _ (hw.row (id := 2) rfl) (by omega)) (by omega) (H.ext hw.fr)) ?_
 intro v3; conv => whnf
 change (firstB N c).length ≤ 2 at hfl
 repeat refine zq ?_
 refine zr ?_; conv => whnf
 refine ⟨rfl, ?_⟩; conv => whnf
 refine ⟨.b (rightS ks liars seed), gimp_of (ans_quiet b33 (fun w' hw => rightS_c ks liars seed [] sv w' (hs.fr hw.fr) hkl)), ?_⟩; conv => whnf
 repeat refine zq ?_
 refine At.cond rfl (fun hq => ?_) (fun hq => At.skip ?_)
 ·have hq' : (decide ((firstB N c).length = 0) || !rightS ks liars seed) = true := by
   simp only [bor, List.length_map] at hq
   simpa [firstB] using hq
  have hres : explB R N (rightS ks liars seed) c = [] := by unfold explB; rw [if_pos hq']
  repeat refine zq ?_
  refine zr ?_; conv => whnf
  repeat refine zq ?_
  refine At.ret (At.doneB tab_ok hB _ rfl fun w' hw => ?_)
  rw [hres]
  exact ansR_nil hw rfl rfl
 have hq' : ¬ (decide ((firstB N c).length = 0) || !rightS ks liars seed) = true := by
  simp only [bor, List.length_map] at hq
  simpa [firstB] using hq
 have hres : explB R N (rightS ks liars seed) c = forkB R N c := by unfold explB; rw [if_neg hq']
 have hnf : (forkB R N c).length ≠ 0 := hne (by intro e; rw [e] at hq'; simp at hq') (by cases hr : rightS ks liars seed with | true => rfl | false => rw [hr] at hq'; simp at hq')
 clear hq
 repeat refine zq ?_
 refine zr ?_; conv => whnf
 refine newAb_call (fun i : Nat × List Nat => .x (ptr i.1)) (fun i => i.2) (fun i => HistQ i.1 rb i.2 (restrictB R N (firstB N c))) b35 (fun _ => rfl) (fun w' hw => restrict_r h rb N hN R (firstB N c) v3 w' (hG.ext hw.fr) (H.ext hw.fr) (hR.fr hw.fr) (slI _ (hw.row (id := 3) rfl) (by omega)) (by omega)) ?_
 rintro ⟨g, Bg⟩
 conv => whnf
 intro b8; conv => whnf
 refine ⟨rfl, ?_⟩; conv => whnf
 repeat refine zq ?_
 refine At.planG tab_ok mixed [(5, LO.box b8 30 [.x (ptr g)]), (1, LO.box b5 43 (encS c))] (.take 0 (.take 1 (.take 2 (.take 4 (.br 3 (.br 5 (.br 6 (.take 7 (.done)) (.nob)) (.nob)) (.nob)))))) (by kernel_rfl) (by kernel_rfl) ⟨rfl, rfl, trivial⟩ ?_; conv => whnf
 refine ⟨?_, trivial⟩; conv => whnf
 refine ansR_call b26 (rd1 (nopI _)) (fun w' hw => marks_r g rb _ hNr w' (histO_hr (B := Bg) (hw.objs _ (look_mem (s := 4) rfl)) hNr (fun b hb => by cases hb))) ?_
 intro v6; conv => whnf
 refine ⟨⟨⟨rfl, rfl, trivial⟩, fun w' hw => hw.fr⟩, ?_⟩; conv => whnf
 refine ⟨?_, trivial⟩; conv => whnf
 refine ansR_call b50 (rd1 (nopI _)) (fun w' hw => with_r g rb _ hNr _ c v6 [] w' (slI _ (hw.row (id := 6) rfl) (by omega)) (by omega) (histO_hr (B := Bg) (hw.objs _ (look_mem (s := 4) rfl)) hNr (fun b hb => by cases hb))) ?_
 intro v7; conv => whnf
 refine ⟨⟨⟨rfl, rfl, trivial⟩, fun w' hw => hw.fr⟩, ?_⟩; conv => whnf
 refine ⟨?_, trivial⟩; conv => whnf
 refine ansR_call b51 (rd1 (nopI _)) (fun w' hw => pair_r g rb _ hNr _ true v7 [] w' (slI _ (hw.row (id := 7) rfl) (by omega)) (by omega) (histO_hr (B := Bg) (hw.objs _ (look_mem (s := 4) rfl)) hNr (fun b hb => by cases hb))) ?_
 intro v8; conv => whnf
 refine ⟨⟨⟨rfl, rfl, trivial⟩, fun w' hw => hw.fr⟩, ?_⟩; conv => whnf
 repeat refine zq ?_
 refine zr ?_; conv => whnf
 refine ⟨rfl, ?_⟩; conv => whnf
 repeat refine zq ?_
 refine At.cond rfl (fun hq => ?_) (fun hq => ?_)
 ·repeat refine zq ?_
  refine zr ?_; conv => whnf
  repeat refine zq ?_
  refine At.ret (At.doneB tab_ok hB _ rfl fun w' hw => ?_)
  rw [hres]
  exact ansR_row (id := 8) hw rfl rfl rfl
 ·exfalso
  have := of_decide_eq_false hq
  rw [List.length_map] at this
  change ¬ (0 : Int) < ((forkB R N c).length : Int) at this
  omega
theorem explB_len (R : List SK) (N : List Nd) (right : Bool) (c : Span) : (explB R N right c).length ≤ 2 := by
 unfold explB
 split
 ·simp
 ·exact pairB_len _ _ _
end Go.Proofs.YtgpgbiklefkjjaaGreatDoor
namespace Go.Proofs.YtgpgbiklefkjjaaGreatDoor
open Go.Vc Rt Go.Bs
set_option maxHeartbeats 1000000
abbrev PartD := Int × List Int
def partT : Ty PartD where
 size := 2
 rel := fun S w p l => ∃ v, l = [.i p.1, .x v] ∧ SlOf intT S w v p.2
 len := fun ⟨v, h, _⟩ => by rw [h]; rfl
 fr := fun hf ⟨v, h, h1⟩ => ⟨v, h, h1.fr hf⟩
 av := fun hs ⟨v, h, h1⟩ => ⟨v, h, h1.avoid hs⟩
def hasL (L : List (Int × Bool)) (x : Int) : Bool := (alook L x).getD false
def okPart (L : List (Int × Bool)) (p : PartD) : Bool := decide (0 < p.2.length) && p.2.all (hasL L)
def explainsB (L : List (Int × Bool)) (P : List PartD) : Int := P.foldl (fun n p => if okPart L p then n + p.1 else n) 0
theorem explainsB_snoc {L : List (Int × Bool)} {P : List PartD} {k : Nat} {p : PartD} (hp : P[k]? = some p) : explainsB L (P.take (k + 1)) = if okPart L p then explainsB L (P.take k) + p.1 else explainsB L (P.take k) := by
 rw [take_snoc hp]; unfold explainsB; rw [List.foldl_append]; rfl
theorem explainsB_bd {L : List (Int × Bool)} (C : Int) (hC : 0 ≤ C) : ∀ (P : List PartD) (n : Int), (∀ p ∈ P, 0 ≤ p.1 ∧ p.1 ≤ C) → 0 ≤ n → 0 ≤ P.foldl (fun n p => if okPart L p then n + p.1 else n) n ∧ P.foldl (fun n p => if okPart L p then n + p.1 else n) n ≤ n + C * P.length
 | [], n, _, h0 => ⟨h0, by simp⟩
 | p :: P, n, h, h0 => by
  have hp := h p (by simp)
  obtain ⟨h1, h2⟩ := explainsB_bd C hC P (if okPart L p then n + p.1 else n) (fun q hq => h q (List.mem_cons_of_mem _ hq)) (by split <;> omega)
  refine ⟨h1, ?_⟩
  rw [List.foldl_cons, List.length_cons]
  have e : C * ((P.length + 1 : Nat) : Int) = C * P.length + C := by push_cast; rw [Int.mul_add, Int.mul_one]
  rw [e]
  split at h2 <;> rename_i hq <;> simp only [hq, if_true, if_false] at h2 ⊢ <;> simp at h2 ⊢ <;> omega
def mT : Ty Nat := flat 1 (fun m => [.x (.map (some m))]) (fun _ => rfl)
theorem box_m {w : World} {b m : Nat} {T : TypeId} {S : List Nat} (hb : w.heap[b]? = some (.cells #[.map (some m)] T (0, 0))) (hS : b ∉ S) : SlOf mT S w (hs b) [m] := by
 have hrow : (LO.row (hs b) T 1 ([m].map fun m => [CV.x (.map (some m))])).holds w := ⟨⟨rfl, .inr ⟨b, 0, 1, _, rfl, hb, Nat.le_refl 1, by unfold maxLen; omega, by simp, rfl⟩⟩, fun l hl => by rw [List.mem_singleton.1 hl]; rfl⟩
 exact SlOf.of_row (enc := fun m => [.x (.map (some m))]) hrow (fun b' hb' => by simp only [hs, blkOf, List.mem_singleton] at hb'; rw [hb']; exact hS) (by simp)
theorem rawQ_b {st : St} {dst : Option Nat} {ty : TypeId} {pos : String} {after : Array Edge} {guard : Option (Nat × Bool)} {keys : Keys} {x i : Operand} {m : Nat} {L : List (Int × Bool)} {k : Int}
  (hx : opv st keys x = some (.s (.c (.x (.map (some m)))))) (hi : opv st keys i = some (.i k)) (hm : ∀ w, Holds st w → MapAt vI vB w m L) :
  RawQ Tryz.prog st keys { dst := dst, op := .lookup 85 x i false, type := ty, pos := pos, after := after, guard := guard } (.b (hasL L k)) := by
 refine RawQ_den (rawQ_lookup (fV := CV.b) (z := .b false) (c := false) (key := k) kl3 ⟨k, rfl⟩ (fun p _ => ⟨p.1, rfl⟩) vI_inj um85 z4 (fun _ => rfl) hx hi rfl hm) ?_
 unfold hasL
 cases alook L k <;> rfl
theorem explains1_c (b m : Nat) (L : List (Int × Bool)) (x : Int) (w : World) (hb : SlOf mT [] w (hs b) [m]) (hm : MapAt vI vB w m L) : Ans Tryz.prog 84 [vI x, ptr b] (.b (!hasL L x)) w := by
 refine calls_e [.i x, .s (.c (.e (hs b) 1 0 0))] Tryz.func84 rfl rfl (Nat.le_of_ble_eq_true rfl) ⟨⟨_, _, _, rfl⟩, trivial⟩ fun B hB => ?_
 repeat refine zq ?_
 refine zr ?_; conv => whnf
 repeat refine zq ?_
 refine zr ?_; conv => whnf
 refine ⟨[.x (.map (some m))], fun w' hw => hb.load (n := 1) (i := 0) (off := 0) hw.fr rfl rfl, ?_⟩; conv => whnf
 refine ⟨.b (hasL L x), gimp_of (rawQ_b rfl rfl (fun w' hw => mapAt_fr hm hw.fr nilS)), ?_⟩; conv => whnf
 repeat refine zq ?_
 refine At.ret (At.doneB tab_ok hB _ rfl fun w' hw => ⟨rfl, hw.fr⟩)
theorem explains_c (P : List PartD) (L : List (Int × Bool)) (lv : Value) (m : Nat) (w : World) (h : SlOf partT [] w lv P) (hm : MapAt vI vB w m L) (hP : ∀ p ∈ P, 0 ≤ p.1 ∧ p.1 ≤ 4398046511104) (hPl : P.length ≤ 1000000) :
  Ans Tryz.prog 40 [lv, .map (some m)] (.i (explainsB L P)) w := by
 have hln := h.len
 refine calls_plainB [.x lv, .x (.map (some m))] Tryz.func40 rfl rfl (Nat.le_of_ble_eq_true rfl) rfl fun B hB => ?_
 repeat refine zq ?_
 refine zr ?_; conv => whnf
 refine ⟨rfl, ?_⟩; conv => whnf
 intro b3; conv => whnf
 repeat refine zq ?_
 refine zr ?_; conv => whnf
 repeat refine zq ?_
 refine zr ?_; conv => whnf
 refine ⟨h.sl, ?_⟩; conv => whnf
 repeat refine zq ?_
 refine At.block ?_
 refine At.loopH (fun k : Nat => { N := Tryz.f40.ntmps, sl := [(3, some (.s (.c (.p 0 b3 0)))), (5, some (.i ((explainsB L (P.take k))))), (8, some (.x lv)), (9, some (.i P.length)), (10, some (.i k))], gl := [], hp := [(0, .box b3 85 [.x (.map (some m))])], S := [], ws := w }) (fun k : Nat => k ≤ P.length) (fun k : Nat => P.length - k)
  (fun w' hw => ⟨0, Nat.zero_le _, Le.of rfl rfl ⟨rfl, rfl, rfl, congrArg (Value.int .i64) hln, rfl, trivial⟩, hw.keep [0] rfl rfl rfl, ⟨⟨_, _, rfl⟩, trivial⟩, trivial⟩) ?_
 intro k hk
 repeat refine zq ?_
 refine zr ?_; conv => whnf
 repeat refine zq ?_
 refine At.cond rfl (fun hc => At.skip ?_) (fun hc => At.exit ?_)
 ·have hltp : k < P.length := by have := of_decide_eq_true hc; omega
  obtain ⟨p, hp⟩ : ∃ x, P[k]? = some x := ⟨_, List.getElem?_eq_getElem hltp⟩
  have hlt : k < P.length := by have := of_decide_eq_true hc; omega
  obtain ⟨_, ⟨u, rfl, hu⟩, hc2⟩ := h.at hp
  have hul := hu.len
  have hsn := explainsB_snoc (L := L) hp
  have hpb := hP p (List.mem_of_getElem? hp)
  obtain ⟨hb0, hb1⟩ := explainsB_bd (L := L) 4398046511104 (by decide) (P.take k) 0 (fun q hq => hP q (List.mem_of_mem_take hq)) (by decide)
  have htl : ((P.take k).length : Int) ≤ 1000000 := by rw [List.length_take]; omega
  change 0 ≤ explainsB L (P.take k) at hb0
  change explainsB L (P.take k) ≤ _ at hb1
  generalize explainsB L (P.take k) = n at hsn hb0 hb1 ⊢
  repeat refine zq ?_
  refine At.block ?_
  repeat refine zq ?_
  refine zr ?_; conv => whnf
  refine ⟨by omega, ?_⟩; conv => whnf
  refine ⟨by omega, ?_⟩; conv => whnf
  refine ⟨[.i p.1, .x u], fun w' hw => hc2 w' hw.fr, ?_⟩; conv => whnf
  intro b7; conv => whnf
  refine ⟨hu.one, ?_⟩; conv => whnf
  repeat refine zq ?_
  refine zr ?_; conv => whnf
  refine ⟨hu.sl, ?_⟩; conv => whnf
  refine ⟨.b (p.2.any fun x => !hasL L x), gimp_of (ans_quiet b22 (fun w' hw => containsF_c p.2 [] u w' (hu.fr hw.fr) 84 #[ptr b3] (fun x => !hasL L x) b84 (fun x hx w'' hx' => explains1_c b3 m L x w'' (box_m (T := 85) ((hx'.block b3 (Array.getElem?_eq_some_iff.1 (hw.box (id := 0) rfl)).1 nilS).trans (hw.box (id := 0) rfl)) nilS) (mapAt_fr hm (hw.fr.trans hx') nilS)))), ?_⟩; conv => whnf
  have hok : (bif decide (0 < slen u) then !(p.2.any fun x => !hasL L x) else false) = okPart L p := by
   rw [band]; unfold okPart
   rw [hul]
   congr 1
   ·rw [decide_eq_decide]; omega
   ·rw [List.not_any_eq_all_not]; simp
  repeat refine zq ?_
  refine At.cond rfl (fun hq => ?_) (fun hq => At.skip ?_)
  ·have hq' : okPart L p = true := by rw [← hok]; exact hq
   rw [if_pos hq'] at hsn
   repeat refine zq ?_
   refine zr ?_; conv => whnf
   refine ⟨⟨by omega, by omega⟩, ?_⟩; conv => whnf
   repeat refine zq ?_
   refine zr ?_; conv => whnf
   refine ⟨⟨by omega, by omega⟩, ?_⟩; conv => whnf
   refine At.nextH fun w' hw => ⟨k + 1, by omega, by omega, Le.of rfl rfl ⟨rfl, congrArg (Value.int .i64) (by rw [hsn]), rfl, rfl, rfl, trivial⟩, hw.keep [0] rfl rfl rfl, ⟨⟨_, _, rfl⟩, trivial⟩, trivial⟩
  ·have hq' : ¬ okPart L p = true := by rw [← hok]; rw [hq]; decide
   rw [if_neg hq'] at hsn
   repeat refine zq ?_
   refine zr ?_; conv => whnf
   refine ⟨⟨by omega, by omega⟩, ?_⟩; conv => whnf
   refine At.nextH fun w' hw => ⟨k + 1, by omega, by omega, Le.of rfl rfl ⟨rfl, congrArg (Value.int .i64) (by rw [hsn]), rfl, rfl, rfl, trivial⟩, hw.keep [0] rfl rfl rfl, ⟨⟨_, _, rfl⟩, trivial⟩, trivial⟩
 ·have hge : k = P.length := by have := of_decide_eq_false hc; omega
  subst hge
  repeat refine zq ?_
  refine zr ?_; conv => whnf
  repeat refine zq ?_
  refine At.ret (At.doneB tab_ok hB _ rfl fun w' hw => ⟨?_, hw.fr⟩)
  rw [List.take_length]
end Go.Proofs.YtgpgbiklefkjjaaGreatDoor
