/- Texts that the law leans on. -/
import Derived.Test.YtdigebokbhmfaaaGreatDoorU20
import Derived.Test.YtdigebokbhmfaaaGreatDoorOVcIter
set_option linter.unusedVariables false
set_option linter.unusedSimpArgs false
namespace Go.Proofs.YtdigebokbhmfaaaGreatDoor
open Go.Vc Rt Go.Bs
def encE (e : En) (k y s : Value) : List CV := [.i e.author, .i e.seq, .i e.day, .x k, .i e.kind, .i e.circle, .i e.who, .i e.n, .i e.m, .i e.ref, .x y, .x s, .s e.text]
def vE (e : En) (k y s : Value) : Value := .agg #[.int .i64 e.author, .int .i64 e.seq, .int .i64 e.day, k, .int .i64 e.kind, .int .i64 e.circle, .int .i64 e.who, .int .i64 e.n, .int .i64 e.m, .int .i64 e.ref, y, s, sv e.text]
structure EnIn (S : List Nat) (w : World) (e : En) (k y s : Value) : Prop where
 k : SlOf intT S w k e.knows
 y : SlOf intT S w y e.keys
 s : SlOf spT S w s e.spans
theorem EnIn.fr {S : List Nat} {w w' : World} {e : En} {k y s : Value} (h : EnIn S w e k y s) (hf : Fr S w w') : EnIn S w' e k y s := ⟨h.k.fr hf, h.y.fr hf, h.s.fr hf⟩
theorem EnIn.nilS {S : List Nat} {w : World} {e : En} {k y s : Value} (h : EnIn S w e k y s) : EnIn [] w e k y s := ⟨h.k.avoid (fun b hb => by cases hb), h.y.avoid (fun b hb => by cases hb), h.s.avoid (fun b hb => by cases hb)⟩
theorem _root_.Go.Vc.SlOf.one {α : Type} {T : Ty α} {S : List Nat} {w : World} {v : Value} {xs : List α} (h : SlOf T S w v xs) : v.oneCell' = true := by obtain ⟨a, n, c, rfl, _⟩ := h.sl; rfl
theorem Gl.useE {w : World} (h : Gl w) {n : Nat} (hn : n < 21) : ECells w (.slice (some ⟨0, 0, none⟩) 1 1) 0 0 (0 + n * 1) [.s (usesB.getD n [])] := by
 obtain ⟨T, hT⟩ := h.uses
 intro a' n' c' e j u hu
 cases e
 cases j with
 | succ j => simp [dens] at hu
 | zero =>
  simp only [dens, List.map_cons, List.map_nil, List.getElem?_cons_zero, Option.some.injEq] at hu
  subst hu
  have e1 : (usesTab.map sv).toArray[n]? = some (sv (usesB.getD n [])) := by
   rw [List.getElem?_toArray, List.getElem?_map, show usesTab = usesB from rfl, List.getElem?_eq_getElem (show n < usesB.length from hn), List.getD_eq_getElem?_getD, List.getElem?_eq_getElem (show n < usesB.length from hn)]
   rfl
  have ea : (elemAddr ⟨0, 0, none⟩ 0 0 (0 + n * 1)).add 0 = ⟨0, n, none⟩ := by simp [elemAddr, Addr.add]; omega
  rw [ea, cell_of_row w 0 _ _ _ _ hT]
  exact e1
theorem okAux {a b : Bool} (h : (bif !a then !b else false) = false) : (a || b) = true := by cases a <;> cases b <;> simp_all
theorem okAux' {a b : Bool} (h : (bif !a then !b else false) = true) : (a || b) = false := by cases a <;> cases b <;> simp_all
theorem hasC_c (s : List UInt8) (c : UInt8) (hc : c.toNat < 128) (w : World) : Ans Tryz.prog 142 [sv s, .int .i32 c.toNat] (.b (hasC s c)) w := by
 have := containsRune_c s c.toNat (by omega) (by omega) w
 rw [show ((c.toNat : Int).toNat).toUInt8 = c by simp] at this
 exact this
theorem fill8 (c1 c2 c3 c4 c5 c6 c7 c8 : Bool) : Instr.fill (fun i => some (i * 1, 1)) #[Value.bool false, Value.bool false, Value.bool false, Value.bool false, Value.bool false, Value.bool false, Value.bool false, Value.bool false] [(0, Value.bool c1), (1, Value.bool c2), (2, Value.bool c3), (3, Value.bool c4), (4, Value.bool c5), (5, Value.bool c6), (6, Value.bool c7), (7, Value.bool c8)] = some #[Value.bool c1, Value.bool c2, Value.bool c3, Value.bool c4, Value.bool c5, Value.bool c6, Value.bool c7, Value.bool c8] := by
 kernel_rfl
theorem u183 : Tryz.prog.underlying 217 = some (.array 8 4) := by kernel_rfl
theorem info183 : ∃ i z, Tryz.prog.info? 217 = some i ∧ i.zero = some z ∧ z.cells = #[.bool false, .bool false, .bool false, .bool false, .bool false, .bool false, .bool false, .bool false] ∧ ∃ j, Tryz.prog.info? 4 = some j ∧ j.size = 1 := by
 obtain ⟨i, d, h1, h2, h3, h4, z, h5, h6, h7⟩ := chk_info (tab_ok 217 _ (by kernel_rfl : Vc.look tab 217 = some { kind := 3, size := 8, zero := [.b false, .b false, .b false, .b false, .b false, .b false, .b false, .b false], elem := 4, esize := 1, ebytes := 8 }))
 obtain ⟨j, d', g1, g2, g3, g4, z', g5, g6, g7⟩ := chk_info (tab_ok 4 _ (by kernel_rfl : Vc.look tab 4 = some { kind := 5, size := 1, zero := [.b false] }))
 refine ⟨i, z, h1, h5, ?_, j, g1, g3⟩
 exact Array.ext' (by rw [h6]; rfl)
theorem plain_c (e : En) (k y s : Value) (S : List Nat) (w : World) (h : EnIn S w e k y s) (hG : Gl w) (hk0 : 0 ≤ e.kind) (hk1 : e.kind < 21) : Ans Tryz.prog 92 [vE e k y s] (.b (plainB e)) w := by
 replace h := h.nilS
 have hl1 := h.y.len
 have hl2 := h.s.len
 refine calls_plainB [.s (.agg (encE e k y s))] Tryz.func92 rfl rfl (Nat.le_of_ble_eq_true rfl) rfl fun B hB => ?_
 repeat refine zq ?_
 refine zr ?_; conv => whnf
 refine ⟨h.k.one, ?_⟩; conv => whnf
 refine ⟨h.y.one, ?_⟩; conv => whnf
 refine ⟨h.s.one, ?_⟩; conv => whnf
 intro b; conv => whnf
 repeat refine zq ?_
 refine zr ?_; conv => whnf
 refine ⟨hk0, ?_⟩; conv => whnf
 refine ⟨by omega, ?_⟩; conv => whnf
 refine ⟨[.s (useOf e)], fun w' hw => (hG.fr hw.fr (fun b hb => by cases hb)).useE (n := e.kind.toNat) (by omega), ?_⟩; conv => whnf
 repeat refine zq ?_
 refine zr ?_; conv => whnf
 refine ⟨h.y.sl, ?_⟩; conv => whnf
 refine ⟨h.s.sl, ?_⟩; conv => whnf
 refine ⟨.s (.agg ((empties e).map CV.b)), gq fun ρ hρ w' hw => ?_, ?_⟩
 ·have e1 := hρ (.tmp 13) _ rfl
  have e2 := hρ (.tmp 16) _ rfl
  have e3 := hρ (.tmp 19) _ rfl
  have e4 := hρ (.tmp 22) _ rfl
  have e5 := hρ (.tmp 25) _ rfl
  have e6 := hρ (.tmp 29) _ rfl
  have e7 := hρ (.tmp 33) _ rfl
  have e8 := hρ (.tmp 36) _ rfl
  obtain ⟨i, z, h1, h2, h3, j, h4, h5⟩ := info183
  simp only [RV.den, SV.den, CV.den] at e1 e2 e3 e4 e5 e6 e7 e8
  simp only [execOp, List.map_toArray, List.map_cons, List.map_nil, e1, e2, e3, e4, e5, e6, e7, e8, Instr.build, Sem.run_bind, run_underlying u183, Result.andThen_ok, ok_zeroValue h1 h2, h3, ok_sizeOf h4, h5]
  have q1 : decide (slen y = 0) = decide (e.keys.length = 0) := by rw [hl1, decide_eq_decide]; omega
  have q2 : decide (slen s = 0) = decide (e.spans.length = 0) := by rw [hl2, decide_eq_decide]; omega
  rw [q1, q2]
  rw [fill8]
  rfl
 conv => whnf
 intro b2; conv => whnf
 repeat refine zq ?_
 refine zr ?_; conv => whnf
 refine range_str rfl u9 ?_
 intro r; conv => whnf
 repeat refine zq ?_
 refine At.block ?_
 refine At.loopH (fun k : Nat => { N := Tryz.f92.ntmps, sl := [(3, some (rS (useOf e))), (4, some (.s (.c (.p 1 b2 0)))), (38, some (.x (ptrI r)))], gl := [], hp := [(2, iterO r letters k), (1, LO.box b2 217 ((empties e).map CV.b))], S := [], ws := w }) (fun k : Nat => k ≤ 8 ∧ ∀ j, j < k → okC e j = true) (fun k : Nat => 8 - k)
  (fun w' hw => ⟨0, ⟨by decide, fun j hj => by omega⟩, Le.of rfl rfl ⟨rfl, rfl, rfl, trivial⟩, hw.keep [2, 1] rfl rfl rfl, ⟨⟨_, _, rfl⟩, trivial⟩, trivial⟩) ?_
 rintro k ⟨hk, hall⟩
 repeat refine zq ?_
 refine zr ?_; conv => whnf
 refine next_str (id := 2) rfl rfl (by decide) (fun c hc => ?_) (fun hc => ?_)
 ·conv => whnf
  repeat refine zq ?_
  refine At.cond (t := true) rfl (fun _ => At.skip ?_) (fun hq => by cases hq)
  have hk8 : k < 8 := (List.getElem?_eq_some_iff.1 hc).1
  obtain rfl : c = letters.getD k 0 := by rw [List.getD_eq_getElem?_getD, hc]; rfl
  repeat refine zq ?_
  refine At.block ?_
  repeat refine zq ?_
  refine zr ?_; conv => whnf
  have hk9 : k = 0 ∨ k = 1 ∨ k = 2 ∨ k = 3 ∨ k = 4 ∨ k = 5 ∨ k = 6 ∨ k = 7 := by omega
  rcases hk9 with rfl | rfl | rfl | rfl | rfl | rfl | rfl | rfl
  all_goals
   repeat refine zq ?_
   refine zr ?_; conv => whnf
   refine ⟨by decide, ?_⟩; conv => whnf
   refine ⟨by decide, ?_⟩; conv => whnf
   refine ⟨.b (hasC (useOf e) (letters.getD _ 0)), by simp only [gimp]; intro _; exact ans_quiet b142 (fun w' _ => hasC_c (useOf e) _ (by decide) w'), ?_⟩; conv => whnf
   repeat refine zq ?_
   refine At.cond rfl (fun hq => ?_) (fun hq => At.skip ?_)
   ·repeat refine zq ?_
    refine zr ?_; conv => whnf
    repeat refine zq ?_
    refine At.ret (At.doneB tab_ok hB _ rfl fun w' hw => ⟨?_, hw.fr⟩)
    have hex : ∃ k, k < 8 ∧ okC e k = false := by first | exact ⟨0, by decide, (okAux' hq :)⟩ | exact ⟨1, by decide, (okAux' hq :)⟩ | exact ⟨2, by decide, (okAux' hq :)⟩ | exact ⟨3, by decide, (okAux' hq :)⟩ | exact ⟨4, by decide, (okAux' hq :)⟩ | exact ⟨5, by decide, (okAux' hq :)⟩ | exact ⟨6, by decide, (okAux' hq :)⟩ | exact ⟨7, by decide, (okAux' hq :)⟩
    obtain ⟨k', hk', he'⟩ := hex
    rw [plainB_false hk' he']
   ·refine At.nextH fun w' hw => ⟨_ + 1, ⟨by decide, fun j hj => ?_⟩, by decide, Le.of rfl rfl ⟨rfl, rfl, rfl, trivial⟩, hw.keep [2, 1] rfl rfl rfl, ⟨⟨_, _, rfl⟩, trivial⟩, trivial⟩
    rcases Nat.lt_or_ge j _ with hj' | hj'
    ·exact hall j hj'
    ·obtain rfl := Nat.le_antisymm (Nat.le_of_lt_succ hj) hj'
     exact (okAux hq :)
 ·have hge : ¬ k < 8 := by rw [List.getElem?_eq_none_iff] at hc; exact Nat.not_lt.2 hc
  conv => whnf
  repeat refine zq ?_
  refine At.cond (t := false) rfl (fun hq => by cases hq) (fun _ => At.exit ?_)
  repeat refine zq ?_
  refine zr ?_; conv => whnf
  repeat refine zq ?_
  refine At.ret (At.doneB tab_ok hB _ rfl fun w' hw => ⟨?_, hw.fr⟩)
  rw [plainB_true fun j hj => hall j (by omega)]
end Go.Proofs.YtdigebokbhmfaaaGreatDoor
namespace Go.Proofs.YtdigebokbhmfaaaGreatDoor
open Go.Vc Rt Go.Bs
set_option maxHeartbeats 2000000
theorem numbers_c (e : En) (k y s : Value) (S : List Nat) (w : World) (h : EnIn S w e k y s) : Ans Tryz.prog 97 [vE e k y s] (.b (numbersB e)) w := by
 replace h := h.nilS
 refine calls_plainB [.s (.agg (encE e k y s))] Tryz.func97 rfl rfl (Nat.le_of_ble_eq_true rfl) rfl fun B hB => ?_
 repeat refine zq ?_
 refine zr ?_; conv => whnf
 refine ⟨h.k.one, ?_⟩; conv => whnf
 refine ⟨h.y.one, ?_⟩; conv => whnf
 refine ⟨h.s.one, ?_⟩; conv => whnf
 intro b; conv => whnf
 repeat refine zq ?_
 refine zr ?_; conv => whnf
 repeat refine zq ?_
 refine zr ?_; conv => whnf
 repeat refine zq ?_
 refine At.block ?_
 repeat refine zq ?_
 refine zr ?_; conv => whnf
 repeat refine zq ?_
 refine At.cond rfl (fun hq => ?_) (fun hq => ?_)
 ·have h3 : e.kind = 3 := of_decide_eq_true hq
  repeat refine zq ?_
  refine zr ?_; conv => whnf
  refine ⟨.b (isDayB e.m), gimp_of (ans_quiet b91 (fun w' _ => day_c _ w')), ?_⟩; conv => whnf
  repeat refine zq ?_
  refine At.ret (At.doneB tab_ok hB _ rfl fun w' hw => ⟨?_, hw.fr⟩)
  simp only [numbersB, if_pos h3, RV.den, SV.den, CV.den, band, bor, coinsB, ofConst]
 ·have h3 : ¬ e.kind = 3 := of_decide_eq_false hq
  repeat refine zq ?_
  refine zr ?_; conv => whnf
  repeat refine zq ?_
  refine At.cond rfl (fun hq => ?_) (fun hq => ?_)
  ·have h4 : e.kind = 4 := of_decide_eq_true hq
   repeat refine zq ?_
   refine zr ?_; conv => whnf
   refine ans_call b94 rfl (fun w' _ => mark_c _ w') ?_; conv => whnf
   repeat refine zq ?_
   refine At.ret (At.doneB tab_ok hB _ rfl fun w' hw => ⟨?_, hw.fr⟩)
   simp only [numbersB, if_neg h3, if_pos h4, RV.den, SV.den, CV.den, band, bor, coinsB, ofConst]
  ·have h4 : ¬ e.kind = 4 := of_decide_eq_false hq
   repeat refine zq ?_
   refine zr ?_; conv => whnf
   repeat refine zq ?_
   refine At.cond rfl (fun hq => ?_) (fun hq => ?_)
   ·have h6 : e.kind = 6 := of_decide_eq_true hq
    repeat refine zq ?_
    refine zr ?_; conv => whnf
    refine ans_call b91 rfl (fun w' _ => day_c _ w') ?_; conv => whnf
    repeat refine zq ?_
    refine At.ret (At.doneB tab_ok hB _ rfl fun w' hw => ⟨?_, hw.fr⟩)
    simp only [numbersB, if_neg h3, if_neg h4, if_pos h6, RV.den, SV.den, CV.den, band, bor, coinsB, ofConst]
   ·have h6 : ¬ e.kind = 6 := of_decide_eq_false hq
    repeat refine zq ?_
    refine zr ?_; conv => whnf
    repeat refine zq ?_
    refine At.cond rfl (fun hq => ?_) (fun hq => ?_)
    ·have h7 : e.kind = 7 := of_decide_eq_true hq
     repeat refine zq ?_
     refine zr ?_; conv => whnf
     refine ans_call b91 rfl (fun w' _ => day_c _ w') ?_; conv => whnf
     refine ⟨.b (isMark e.ref), gimp_of (ans_quiet b94 (fun w' _ => mark_c _ w')), ?_⟩; conv => whnf
     repeat refine zq ?_
     refine At.ret (At.doneB tab_ok hB _ rfl fun w' hw => ⟨?_, hw.fr⟩)
     simp only [numbersB, if_neg h3, if_neg h4, if_neg h6, if_pos h7, RV.den, SV.den, CV.den, band, bor, coinsB, ofConst]
    ·have h7 : ¬ e.kind = 7 := of_decide_eq_false hq
     repeat refine zq ?_
     refine zr ?_; conv => whnf
     repeat refine zq ?_
     refine At.cond rfl (fun hq => ?_) (fun hq => ?_)
     ·have h8 : e.kind = 8 := of_decide_eq_true hq
      repeat refine zq ?_
      refine zr ?_; conv => whnf
      refine ans_call b91 rfl (fun w' _ => day_c _ w') ?_; conv => whnf
      refine ⟨.b (isMark e.ref), gimp_of (ans_quiet b94 (fun w' _ => mark_c _ w')), ?_⟩; conv => whnf
      repeat refine zq ?_
      refine At.ret (At.doneB tab_ok hB _ rfl fun w' hw => ⟨?_, hw.fr⟩)
      simp only [numbersB, if_neg h3, if_neg h4, if_neg h6, if_neg h7, if_pos h8, RV.den, SV.den, CV.den, band, bor, coinsB, ofConst]
     ·have h8 : ¬ e.kind = 8 := of_decide_eq_false hq
      repeat refine zq ?_
      refine zr ?_; conv => whnf
      repeat refine zq ?_
      refine At.cond rfl (fun hq => ?_) (fun hq => ?_)
      ·have h9 : e.kind = 9 := of_decide_eq_true hq
       repeat refine zq ?_
       refine zr ?_; conv => whnf
       refine ans_call b94 rfl (fun w' _ => mark_c _ w') ?_; conv => whnf
       repeat refine zq ?_
       refine At.ret (At.doneB tab_ok hB _ rfl fun w' hw => ⟨?_, hw.fr⟩)
       simp only [numbersB, if_neg h3, if_neg h4, if_neg h6, if_neg h7, if_neg h8, if_pos h9, RV.den, SV.den, CV.den, band, bor, coinsB, ofConst]
      ·have h9 : ¬ e.kind = 9 := of_decide_eq_false hq
       repeat refine zq ?_
       refine zr ?_; conv => whnf
       repeat refine zq ?_
       refine At.cond rfl (fun hq => ?_) (fun hq => ?_)
       ·have h10 : e.kind = 10 := of_decide_eq_true hq
        repeat refine zq ?_
        refine zr ?_; conv => whnf
        refine ⟨.b (isDayB e.m), gimp_of (ans_quiet b91 (fun w' _ => day_c _ w')), ?_⟩; conv => whnf
        repeat refine zq ?_
        refine At.ret (At.doneB tab_ok hB _ rfl fun w' hw => ⟨?_, hw.fr⟩)
        simp only [numbersB, if_neg h3, if_neg h4, if_neg h6, if_neg h7, if_neg h8, if_neg h9, if_pos h10, RV.den, SV.den, CV.den, band, bor, coinsB, ofConst]
       ·have h10 : ¬ e.kind = 10 := of_decide_eq_false hq
        repeat refine zq ?_
        refine zr ?_; conv => whnf
        repeat refine zq ?_
        refine At.cond rfl (fun hq => At.skip ?_) (fun hq => ?_)
        ·have h11 : e.kind = 11 ∨ e.kind = 13 := .inl (of_decide_eq_true hq)
         repeat refine zq ?_
         refine At.cond rfl (fun _ => ?_) (fun hq2 => absurd (of_decide_eq_true hq) (of_decide_eq_false hq2))
         repeat refine zq ?_
         refine zr ?_; conv => whnf
         refine ans_call b94 rfl (fun w' _ => mark_c _ w') ?_; conv => whnf
         repeat refine zq ?_
         refine At.ret (At.doneB tab_ok hB _ rfl fun w' hw => ⟨?_, hw.fr⟩)
         simp only [numbersB, if_neg h3, if_neg h4, if_neg h6, if_neg h7, if_neg h8, if_neg h9, if_neg h10, if_pos h11, RV.den, SV.den, CV.den, band, bor, coinsB, ofConst]
        ·have ha : ¬ e.kind = 11 := of_decide_eq_false hq
         repeat refine zq ?_
         refine zr ?_; conv => whnf
         repeat refine zq ?_
         refine At.cond rfl (fun hq2 => ?_) (fun hq2 => ?_)
         ·have h11 : e.kind = 11 ∨ e.kind = 13 := .inr (of_decide_eq_true hq2)
          repeat refine zq ?_
          refine zr ?_; conv => whnf
          refine ans_call b94 rfl (fun w' _ => mark_c _ w') ?_; conv => whnf
          repeat refine zq ?_
          refine At.ret (At.doneB tab_ok hB _ rfl fun w' hw => ⟨?_, hw.fr⟩)
          simp only [numbersB, if_neg h3, if_neg h4, if_neg h6, if_neg h7, if_neg h8, if_neg h9, if_neg h10, if_pos h11, RV.den, SV.den, CV.den, band, bor, coinsB, ofConst]
         ·have h11 : ¬ (e.kind = 11 ∨ e.kind = 13) := fun h => h.elim ha (of_decide_eq_false hq2)
          repeat refine zq ?_
          refine zr ?_; conv => whnf
          repeat refine zq ?_
          refine At.cond rfl (fun hq => ?_) (fun hq => ?_)
          ·have h12 : e.kind = 12 := of_decide_eq_true hq
           repeat refine zq ?_
           refine zr ?_; conv => whnf
           refine ans_call b94 rfl (fun w' _ => mark_c _ w') ?_; conv => whnf
           repeat refine zq ?_
           refine At.ret (At.doneB tab_ok hB _ rfl fun w' hw => ⟨?_, hw.fr⟩)
           simp only [numbersB, if_neg h3, if_neg h4, if_neg h6, if_neg h7, if_neg h8, if_neg h9, if_neg h10, if_neg h11, if_pos h12, RV.den, SV.den, CV.den, band, bor, coinsB, ofConst]
          ·have h12 : ¬ e.kind = 12 := of_decide_eq_false hq
           repeat refine zq ?_
           refine zr ?_; conv => whnf
           repeat refine zq ?_
           refine At.cond rfl (fun hq => ?_) (fun hq => ?_)
           ·have h15 : e.kind = 15 := of_decide_eq_true hq
            repeat refine zq ?_
            refine zr ?_; conv => whnf
            refine ans_call b90 rfl (fun w' _ => key_c _ w') ?_; conv => whnf
            repeat refine zq ?_
            refine At.ret (At.doneB tab_ok hB _ rfl fun w' hw => ⟨?_, hw.fr⟩)
            simp only [numbersB, if_neg h3, if_neg h4, if_neg h6, if_neg h7, if_neg h8, if_neg h9, if_neg h10, if_neg h11, if_neg h12, if_pos h15, RV.den, SV.den, CV.den, band, bor, coinsB, ofConst]
           ·have h15 : ¬ e.kind = 15 := of_decide_eq_false hq
            repeat refine zq ?_
            refine zr ?_; conv => whnf
            repeat refine zq ?_
            refine At.cond rfl (fun hq => ?_) (fun hq => ?_)
            ·have h16 : e.kind = 16 := of_decide_eq_true hq
             repeat refine zq ?_
             refine zr ?_; conv => whnf
             refine ans_call b94 rfl (fun w' _ => mark_c _ w') ?_; conv => whnf
             repeat refine zq ?_
             refine At.ret (At.doneB tab_ok hB _ rfl fun w' hw => ⟨?_, hw.fr⟩)
             simp only [numbersB, if_neg h3, if_neg h4, if_neg h6, if_neg h7, if_neg h8, if_neg h9, if_neg h10, if_neg h11, if_neg h12, if_neg h15, if_pos h16, RV.den, SV.den, CV.den, band, bor, coinsB, ofConst]
            ·have h16 : ¬ e.kind = 16 := of_decide_eq_false hq
             repeat refine zq ?_
             refine zr ?_; conv => whnf
             repeat refine zq ?_
             refine At.cond rfl (fun hq => At.skip ?_) (fun hq => ?_)
             ·have h18 : e.kind = 18 ∨ e.kind = 19 := .inl (of_decide_eq_true hq)
              repeat refine zq ?_
              refine At.cond rfl (fun _ => ?_) (fun hq2 => absurd (of_decide_eq_true hq) (of_decide_eq_false hq2))
              repeat refine zq ?_
              refine zr ?_; conv => whnf
              refine ans_call b91 rfl (fun w' _ => day_c _ w') ?_; conv => whnf
              refine ⟨.b (isDayB e.n), gimp_of (ans_quiet b91 (fun w' _ => day_c _ w')), ?_⟩; conv => whnf
              refine ⟨.b (isMark e.ref), gimp_of (ans_quiet b94 (fun w' _ => mark_c _ w')), ?_⟩; conv => whnf
              repeat refine zq ?_
              refine At.ret (At.doneB tab_ok hB _ rfl fun w' hw => ⟨?_, hw.fr⟩)
              simp only [numbersB, if_neg h3, if_neg h4, if_neg h6, if_neg h7, if_neg h8, if_neg h9, if_neg h10, if_neg h11, if_neg h12, if_neg h15, if_neg h16, if_pos h18, RV.den, SV.den, CV.den, band, bor, coinsB, ofConst]
             ·have ha : ¬ e.kind = 18 := of_decide_eq_false hq
              repeat refine zq ?_
              refine zr ?_; conv => whnf
              repeat refine zq ?_
              refine At.cond rfl (fun hq2 => ?_) (fun hq2 => ?_)
              ·have h18 : e.kind = 18 ∨ e.kind = 19 := .inr (of_decide_eq_true hq2)
               repeat refine zq ?_
               refine zr ?_; conv => whnf
               refine ans_call b91 rfl (fun w' _ => day_c _ w') ?_; conv => whnf
               refine ⟨.b (isDayB e.n), gimp_of (ans_quiet b91 (fun w' _ => day_c _ w')), ?_⟩; conv => whnf
               refine ⟨.b (isMark e.ref), gimp_of (ans_quiet b94 (fun w' _ => mark_c _ w')), ?_⟩; conv => whnf
               repeat refine zq ?_
               refine At.ret (At.doneB tab_ok hB _ rfl fun w' hw => ⟨?_, hw.fr⟩)
               simp only [numbersB, if_neg h3, if_neg h4, if_neg h6, if_neg h7, if_neg h8, if_neg h9, if_neg h10, if_neg h11, if_neg h12, if_neg h15, if_neg h16, if_pos h18, RV.den, SV.den, CV.den, band, bor, coinsB, ofConst]
              ·have h18 : ¬ (e.kind = 18 ∨ e.kind = 19) := fun h => h.elim ha (of_decide_eq_false hq2)
               repeat refine zq ?_
               refine zr ?_; conv => whnf
               repeat refine zq ?_
               refine At.cond rfl (fun hq => ?_) (fun hq => ?_)
               ·have h20 : e.kind = 20 := of_decide_eq_true hq
                repeat refine zq ?_
                refine zr ?_; conv => whnf
                refine ans_call b91 rfl (fun w' _ => day_c _ w') ?_; conv => whnf
                refine ⟨.b (isDayB e.n), gimp_of (ans_quiet b91 (fun w' _ => day_c _ w')), ?_⟩; conv => whnf
                refine ⟨.b (isMark e.ref), gimp_of (ans_quiet b94 (fun w' _ => mark_c _ w')), ?_⟩; conv => whnf
                repeat refine zq ?_
                refine At.ret (At.doneB tab_ok hB _ rfl fun w' hw => ⟨?_, hw.fr⟩)
                simp only [numbersB, if_neg h3, if_neg h4, if_neg h6, if_neg h7, if_neg h8, if_neg h9, if_neg h10, if_neg h11, if_neg h12, if_neg h15, if_neg h16, if_neg h18, if_pos h20, RV.den, SV.den, CV.den, band, bor, coinsB, ofConst]
               ·have h20 : ¬ e.kind = 20 := of_decide_eq_false hq
                refine At.skip ?_
                repeat refine zq ?_
                refine zr ?_; conv => whnf
                repeat refine zq ?_
                refine At.ret (At.doneB tab_ok hB _ rfl fun w' hw => ⟨?_, hw.fr⟩)
                simp only [numbersB, if_neg h3, if_neg h4, if_neg h6, if_neg h7, if_neg h8, if_neg h9, if_neg h10, if_neg h11, if_neg h12, if_neg h15, if_neg h16, if_neg h18, if_neg h20, RV.den, SV.den, CV.den, ofConst]
end Go.Proofs.YtdigebokbhmfaaaGreatDoor
namespace Go.Proofs.YtdigebokbhmfaaaGreatDoor
open Go.Vc Rt Go.Bs
set_option maxHeartbeats 2000000
theorem index_c (xs : List Int) (z : Int) (S : List Nat) (v : Value) (w : World) (h : SlOf intT S w v xs) : Ans Tryz.prog 78 [v, vI z] (.i (idxOf (fun x => decide (z = x)) xs)) w := by
 replace h := h.avoid (S' := []) (fun b hb => by cases hb)
 have hsm := h.small
 refine calls_plainB [.x v, .i z] Tryz.func78 rfl rfl (Nat.le_of_ble_eq_true rfl) rfl fun B hB => ?_
 repeat refine zq ?_
 refine zr ?_; conv => whnf
 repeat refine zq ?_
 refine zr ?_; conv => whnf
 refine ⟨h.sl, ?_⟩; conv => whnf
 repeat refine zq ?_
 refine At.block ?_
 refine At.loopF (fun k : Nat => { N := Tryz.f78.ntmps, sl := [(0, some (.x v)), (1, some (.i z)), (7, some (.i xs.length)), (8, some (.i k))], gl := [], hp := [], S := [], ws := w }) (fun k => k ≤ xs.length ∧ ∀ j y, j < k → xs[j]? = some y → (fun x => decide (z = x)) y = false) (fun k => xs.length - k)
  (fun w' hw => ⟨0, ⟨Nat.zero_le _, fun j y hj => by omega⟩, Le.of rfl rfl ⟨rfl, rfl, congrArg (Value.int .i64) h.len, rfl, trivial⟩, WF.plain rfl, hw.same rfl rfl rfl⟩) ?_
 intro k ⟨hk, hall⟩
 repeat refine zq ?_
 refine zr ?_; conv => whnf
 repeat refine zq ?_
 refine At.cond rfl (fun hc => At.skip ?_) (fun hc => At.exit ?_)
 ·have hlt : k < xs.length := by simpa using hc
  obtain ⟨x, hx⟩ : ∃ x, xs[k]? = some x := ⟨_, List.getElem?_eq_getElem hlt⟩
  repeat refine zq ?_
  refine At.block ?_
  repeat refine zq ?_
  refine zr ?_; conv => whnf
  repeat refine zq ?_
  refine zr ?_; conv => whnf
  refine ⟨by omega, ?_⟩; conv => whnf
  refine ⟨by rw [h.len]; omega, ?_⟩; conv => whnf
  refine ⟨[.i x], fun w' hw => h.load (n := 1) hw.fr hx rfl, ?_⟩; conv => whnf
  repeat refine zq ?_
  refine At.cond rfl (fun hq => ?_) (fun hq => ?_)
  ·repeat refine zq ?_
   refine zr ?_; conv => whnf
   repeat refine zq ?_
   refine At.ret (At.doneB tab_ok hB _ rfl fun w' hw => ⟨?_, hw.fr⟩)
   rw [idx_some hx hq hall]
  ·refine At.skip ?_
   repeat refine zq ?_
   refine zr ?_; conv => whnf
   refine ⟨⟨by omega, by omega⟩, ?_⟩; conv => whnf
   refine At.next fun w' hw => ⟨k + 1, ⟨by omega, fun j y hj hy => ?_⟩, by omega, Le.of rfl rfl ⟨rfl, rfl, rfl, rfl, trivial⟩, WF.plain rfl, hw.keep [] rfl rfl rfl⟩
   rcases Nat.lt_or_ge j k with hj' | hj'
   ·exact hall j y hj' hy
   ·obtain rfl : j = k := by omega
    rw [hx] at hy; cases hy; exact hq
 ·have hge : k = xs.length := by simp at hc; omega
  subst hge
  repeat refine zq ?_
  refine zr ?_; conv => whnf
  repeat refine zq ?_
  refine At.ret (At.doneB tab_ok hB _ rfl fun w' hw => ⟨?_, hw.fr⟩)
  rw [idx_none (fun j y hy => hall j y (List.getElem?_eq_some_iff.1 hy).1 hy)]
def hasI (xs : List Int) (z : Int) : Bool := xs.any fun x => decide (z = x)
theorem contains_c (xs : List Int) (z : Int) (S : List Nat) (v : Value) (w : World) (h : SlOf intT S w v xs) : Ans Tryz.prog 52 [v, vI z] (.b (hasI xs z)) w := by
 replace h := h.avoid (S' := []) (fun b hb => by cases hb)
 refine calls_plainB [.x v, .i z] Tryz.func52 rfl rfl (Nat.le_of_ble_eq_true rfl) rfl fun B hB => ?_
 repeat refine zq ?_
 refine zr ?_; conv => whnf
 repeat refine zq ?_
 refine zr ?_; conv => whnf
 refine ans_call b78 rfl (fun w' hw => index_c xs z [] v w' (h.fr hw.fr)) ?_; conv => whnf
 repeat refine zq ?_
 refine At.ret (At.doneB tab_ok hB _ rfl fun w' hw => ⟨?_, hw.fr⟩)
 rw [hasI, ← idx_any]
theorem right_c (e : En) (k y s : Value) (S : List Nat) (w : World) (h : EnIn S w e k y s) (hG : Gl w) : Ans Tryz.prog 57 [vE e k y s] (.b (rightB e)) w := by
 replace h := h.nilS
 have hkl := h.k.len
 have hsl := h.s.len
 have hks := h.k.small
 refine calls_plainB [.s (.agg (encE e k y s))] Tryz.func57 rfl rfl (Nat.le_of_ble_eq_true rfl) rfl fun B hB => ?_
 repeat refine zq ?_
 refine zr ?_; conv => whnf
 refine ⟨h.k.one, ?_⟩; conv => whnf
 refine ⟨h.y.one, ?_⟩; conv => whnf
 refine ⟨h.s.one, ?_⟩; conv => whnf
 intro b; conv => whnf
 repeat refine zq ?_
 refine zr ?_; conv => whnf
 refine ans_call b90 rfl (fun w' _ => key_c _ w') ?_; conv => whnf
 refine ⟨.b (isDayB e.day), gimp_of (ans_quiet b91 (fun w' _ => day_c _ w')), ?_⟩; conv => whnf
 refine ⟨.b (plainB e), by
  simp only [gimp, bor]
  intro h1
  have h1 := (Bool.or_eq_false_iff.1 h1)
  have h2 := (Bool.or_eq_false_iff.1 h1.1)
  have h3 := of_decide_eq_false h1.2
  have h4 := of_decide_eq_false h2.2
  exact ans_quiet b92 (fun w' hw => plain_c e k y s [] w' (h.fr hw.fr) (hG.fr hw.fr (fun b hb => by cases hb)) (by omega) (by omega)), ?_⟩
 conv => whnf
 have eA : (((((((!isKeyB e.author) || decide (e.seq < 0)) || decide (1048576 ≤ e.seq)) || !isDayB e.day) || decide (e.kind < 0)) || decide (21 ≤ e.kind)) || !plainB e) = badA e := rfl
 repeat refine zq ?_
 refine At.cond rfl (fun hq => ?_) (fun hq => At.skip ?_)
 ·have hA : badA e = true := by rw [← eA]; simpa only [bor] using hq
  repeat refine zq ?_
  refine zr ?_; conv => whnf
  repeat refine zq ?_
  refine At.ret (At.doneB tab_ok hB _ rfl fun w' hw => ⟨?_, hw.fr⟩)
  simp [rightB, hA, RV.den, SV.den, CV.den, ofConst]
 have hA : badA e = false := by rw [← eA]; simpa only [bor] using hq
 clear hq
 repeat refine zq ?_
 refine zr ?_; conv => whnf
 refine ⟨h.k.sl, ?_⟩; conv => whnf
 repeat refine zq ?_
 refine zr ?_; conv => whnf
 refine ⟨.b (ascB e.knows), gimp_of (ans_quiet b93 (fun w' hw => asc_c e.knows [] k w' (h.k.fr hw.fr))), ?_⟩; conv => whnf
 refine ⟨by simp only [gimp]; intros; omega, ?_⟩; conv => whnf
 refine ⟨by simp only [gimp]; intro h1 _; simp at h1; omega, ?_⟩; conv => whnf
 refine ⟨[.i (e.knows.getD 0 0)], by simp only [gimp]; intro h1 _ w' hw; simp at h1; exact h.k.loadI (n := 1) hw.fr (by omega) (getD_some (i := 0) (by omega)) rfl, ?_⟩; conv => whnf
 refine ⟨.b (isMark (e.knows.getD 0 0)), gimp_of (ans_quiet b94 (fun w' _ => mark_c _ w')), ?_⟩; conv => whnf
 refine ⟨by simp only [gimp]; intro _ h1 _; simp at h1; exact ⟨by omega, by omega⟩, ?_⟩; conv => whnf
 refine ⟨by simp only [gimp]; intro _ h1 _; simp at h1; omega, ?_⟩; conv => whnf
 refine ⟨by simp only [gimp]; intro _ h1 _; simp at h1; omega, ?_⟩; conv => whnf
 refine ⟨[.i (e.knows.getD (e.knows.length - 1) 0)], by simp only [gimp]; intro _ h1 _ w' hw; simp at h1; exact h.k.loadI (n := 1) hw.fr (by omega) (by rw [← getD_some (by omega)]; congr 1; omega) rfl, ?_⟩; conv => whnf
 refine ⟨.b (isMark (e.knows.getD (e.knows.length - 1) 0)), gimp_of (ans_quiet b94 (fun w' _ => mark_c _ w')), ?_⟩; conv => whnf
 have eK : ((decide (40 < slen k) || !ascB e.knows) || (decide (0 < slen k) && ((!isMark (e.knows.getD 0 0)) || !isMark (e.knows.getD (e.knows.length - 1) 0)))) = badK e := by
  unfold badK; rw [hkl, show decide ((40 : Int) < e.knows.length) = decide (40 < e.knows.length) by rw [decide_eq_decide]; omega, show decide ((0 : Int) < e.knows.length) = decide (0 < e.knows.length) by rw [decide_eq_decide]; omega]
 repeat refine zq ?_
 refine At.cond rfl (fun hq => ?_) (fun hq => At.skip ?_)
 ·have hK : badK e = true := by rw [← eK]; simpa only [bor, band] using hq
  repeat refine zq ?_
  refine zr ?_; conv => whnf
  repeat refine zq ?_
  refine At.ret (At.doneB tab_ok hB _ rfl fun w' hw => ⟨?_, hw.fr⟩)
  simp [rightB, hA, hK, RV.den, SV.den, CV.den, ofConst]
 have hK : badK e = false := by rw [← eK]; simpa only [bor, band] using hq
 clear hq
 repeat refine zq ?_
 refine zr ?_; conv => whnf
 intro v7; conv => whnf
 refine ans_call b52 rfl (fun w' hw => contains_c [5, 6, 7] e.kind [] v7 w' (slI [5, 6, 7] (hw.row (id := 1) rfl) (by decide))) ?_; conv => whnf
 repeat refine zq ?_
 refine zr ?_; conv => whnf
 refine ⟨by simp only [gimp]; intro _; exact h.s.sl, ?_⟩; conv => whnf
 refine ⟨by simp only [gimp]; intros; exact h.s.sl, ?_⟩; conv => whnf
 refine ⟨.b (normal e.spans), gimp_of (ans_quiet b95 (fun w' hw => normal_c e.spans [] s w' (h.s.fr hw.fr))), ?_⟩; conv => whnf
 have eS : (hasI [5, 6, 7] e.kind && ((decide (slen s = 0) || decide (40 < slen s)) || !normal e.spans)) = badS e := by
  unfold badS hasI; rw [hsl, show decide ((40 : Int) < e.spans.length) = decide (40 < e.spans.length) by rw [decide_eq_decide]; omega, show decide ((e.spans.length : Int) = 0) = decide (e.spans.length = 0) by rw [decide_eq_decide]; omega]
 repeat refine zq ?_
 refine At.cond rfl (fun hq => ?_) (fun hq => At.skip ?_)
 ·have hS : badS e = true := by rw [← eS]; simpa only [bor, band] using hq
  repeat refine zq ?_
  refine zr ?_; conv => whnf
  repeat refine zq ?_
  refine At.ret (At.doneB tab_ok hB _ rfl fun w' hw => ⟨?_, hw.fr⟩)
  simp [rightB, hA, hK, hS, RV.den, SV.den, CV.den, ofConst]
 have hS : badS e = false := by rw [← eS]; simpa only [bor, band] using hq
 clear hq
 repeat refine zq ?_
 refine zr ?_; conv => whnf
 repeat refine zq ?_
 refine zr ?_; conv => whnf
 refine ⟨.b (keysB e.keys), gimp_of (ans_quiet b96 (fun w' hw => keys_c e.keys [] y w' (h.y.fr hw.fr))), ?_⟩; conv => whnf
 refine ⟨.b (isMark e.circle), gimp_of (ans_quiet b94 (fun w' _ => mark_c _ w')), ?_⟩; conv => whnf
 refine ⟨.b (isKeyB e.who), gimp_of (ans_quiet b90 (fun w' _ => key_c _ w')), ?_⟩; conv => whnf
 have eM : ((((decide (e.kind = 0) || decide (e.kind = 17)) && !keysB e.keys) || decide ((2000 : Int) < e.text.length)) || !isMark e.circle || !isKeyB e.who) = badM e := by
  unfold badM; rw [show decide ((2000 : Int) < e.text.length) = decide (2000 < e.text.length) by rw [decide_eq_decide]; omega]
 repeat refine zq ?_
 refine At.cond rfl (fun hq => ?_) (fun hq => At.skip ?_)
 ·have hM : badM e = true := by rw [← eM]; simpa only [bor, band] using hq
  repeat refine zq ?_
  refine zr ?_; conv => whnf
  repeat refine zq ?_
  refine At.ret (At.doneB tab_ok hB _ rfl fun w' hw => ⟨?_, hw.fr⟩)
  simp [rightB, hA, hK, hS, hM, RV.den, SV.den, CV.den, ofConst]
 have hM : badM e = false := by rw [← eM]; simpa only [bor, band] using hq
 clear hq
 repeat refine zq ?_
 refine zr ?_; conv => whnf
 refine ans_call b97 rfl (fun w' hw => numbers_c e k y s [] w' (h.fr hw.fr)) ?_; conv => whnf
 repeat refine zq ?_
 refine At.ret (At.doneB tab_ok hB _ rfl fun w' hw => ⟨?_, hw.fr⟩)
 simp [rightB, hA, hK, hS, hM, RV.den, SV.den, CV.den, ofConst]
end Go.Proofs.YtdigebokbhmfaaaGreatDoor
namespace Go.Proofs.YtdigebokbhmfaaaGreatDoor
open Go.Vc Rt Go.Bs
set_option maxHeartbeats 2000000
theorem etext_c (e : En) (kk y s : Value) (S : List Nat) (w : World) (h : EnIn S w e kk y s) (hR : EnR e) (hG : Gl w) : Ans Tryz.prog 28 [vE e kk y s] (rS (entryS e)) w := by
 replace h := h.nilS
 refine calls_plainB [.s (.agg (encE e kk y s))] Tryz.func28 rfl rfl (Nat.le_of_ble_eq_true rfl) rfl fun B hB => ?_
 repeat refine zq ?_
 refine zr ?_; conv => whnf
 refine ⟨h.k.one, ?_⟩; conv => whnf
 refine ⟨h.y.one, ?_⟩; conv => whnf
 refine ⟨h.s.one, ?_⟩; conv => whnf
 intro b; conv => whnf
 repeat refine zq ?_
 refine zr ?_; conv => whnf
 refine ans_call b57 rfl (fun w' hw => right_c e kk y s [] w' (h.fr hw.fr) (hG.ext hw.fr)) ?_; conv => whnf
 repeat refine zq ?_
 refine At.cond rfl (fun hq => ?_) (fun hq => At.skip ?_)
 ·have hr : rightB e = false := by simpa using hq
  repeat refine zq ?_
  refine zr ?_; conv => whnf
  repeat refine zq ?_
  refine At.ret (At.doneB tab_ok hB _ rfl fun w' hw => ⟨?_, hw.fr⟩)
  rw [entryS, if_neg (by rw [hr]; decide)]
 have hr : rightB e = true := by simpa using hq
 clear hq
 have l1 := numS_len hR.author.1 hR.author.2
 have l2 := numS_len hR.seq.1 hR.seq.2
 have l3 := numS_len hR.day.1 hR.day.2
 have l4 := numsS_len hR.knows hR.lk
 have l5 := numS_len hR.kind.1 hR.kind.2
 have l6 := numS_len hR.circle.1 hR.circle.2
 have l7 := numS_len hR.who.1 hR.who.2
 have l8 := intS_len hR.n.1 hR.n.2
 have l9 := intS_len hR.m.1 hR.m.2
 have l10 := intS_len hR.ref.1 hR.ref.2
 have l11 := numsS_len hR.keys hR.ly
 have hsi : inR e.spans.length := ⟨by have := hR.ls; omega, by have := hR.ls; omega⟩
 have l12 := numS_len hsi.1 hsi.2
 have l13 := textS_len hR.lt
 have lk := hR.lk
 have ly := hR.ly
 have ls := hR.ls
 have lt := hR.lt
 repeat refine zq ?_
 refine zr ?_; conv => whnf
 intro b3; conv => whnf
 refine At.reshapeH fun w' hw => ⟨{ N := Tryz.f28.ntmps, sl := [(1, some (.s (.c (.p 0 b 0)))), (3, some (.x (ptr b3)))], gl := [], hp := [(1, bdO b3 (.slice none 0 0) []), (0, .box b 40 (encE e kk y s))], S := [], ws := w }, Le.of rfl rfl ⟨rfl, rfl, trivial⟩, ?_, ⟨⟨_, _, rfl⟩, trivial⟩, trivial, ?_⟩
 ·exact (hw.setG (id := 1) rfl (Fr.refl _ _) (bd_new (hw.box (id := 1) rfl)) (fun x hx => .inl (by rcases (bdO_blks x).1 hx with rfl | hx; exact List.mem_singleton.2 rfl; simp [blkOf] at hx))).same rfl rfl rfl
 repeat refine zq ?_
 refine At.planG tab_ok mixed [(0, LO.box b 40 (encE e kk y s))] (.take 0 (.take 1 (.take 3 (.take 4 (.take 7 (.take 8 (.take 11 (.take 12 (.take 15 (.take 16 (.take 19 (.take 20 (.take 23 (.take 24 (.br 2 (.br 5 (.take 6 (.br 9 (.take 10 (.br 13 (.take 14 (.br 17 (.take 18 (.br 21 (.take 22 (.br 25 (.take 26 (.br 27 (.done) (.nob))) (.nob))) (.nob))) (.nob))) (.nob))) (.nob))) (.nob)) (.nob)))))))))))))))) (by kernel_rfl) (by kernel_rfl) ⟨rfl, trivial⟩ ?_; conv => whnf
 refine ⟨?_, trivial⟩; conv => whnf
 refine ans_call b59 rfl (fun w' hw => num_c e.author hR.author w' (hG.ext hw.fr)) ?_; conv => whnf
 refine ⟨⟨⟨rfl, trivial⟩, fun w' hw => hw.fr⟩, ?_⟩; conv => whnf
 refine ⟨?_, trivial⟩; conv => whnf
 refine ans_call b59 rfl (fun w' hw => num_c e.seq hR.seq w' (hG.ext hw.fr)) ?_; conv => whnf
 refine ⟨⟨⟨rfl, trivial⟩, fun w' hw => hw.fr⟩, ?_⟩; conv => whnf
 refine ⟨by first | omega | (simp only [List.length_append]; omega), ?_⟩; conv => whnf
 refine ⟨?_, trivial⟩; conv => whnf
 refine ans_call b59 rfl (fun w' hw => num_c e.day hR.day w' (hG.ext hw.fr)) ?_; conv => whnf
 refine ⟨⟨⟨rfl, trivial⟩, fun w' hw => hw.fr⟩, ?_⟩; conv => whnf
 refine ⟨by first | omega | (simp only [List.length_append]; omega), ?_⟩; conv => whnf
 refine ⟨?_, trivial⟩; conv => whnf
 refine ans_call b60 rfl (fun w' hw => nums_c e.knows hR.knows hR.lk [] kk w' (h.k.fr hw.fr) (hG.ext hw.fr)) ?_; conv => whnf
 refine ⟨⟨⟨rfl, trivial⟩, fun w' hw => hw.fr⟩, ?_⟩; conv => whnf
 refine ⟨by first | omega | (simp only [List.length_append]; omega), ?_⟩; conv => whnf
 refine ⟨?_, trivial⟩; conv => whnf
 refine ans_call b59 rfl (fun w' hw => num_c e.kind hR.kind w' (hG.ext hw.fr)) ?_; conv => whnf
 refine ⟨⟨⟨rfl, trivial⟩, fun w' hw => hw.fr⟩, ?_⟩; conv => whnf
 refine ⟨by first | omega | (simp only [List.length_append]; omega), ?_⟩; conv => whnf
 refine ⟨?_, trivial⟩; conv => whnf
 refine ans_call b59 rfl (fun w' hw => num_c e.circle hR.circle w' (hG.ext hw.fr)) ?_; conv => whnf
 refine ⟨⟨⟨rfl, trivial⟩, fun w' hw => hw.fr⟩, ?_⟩; conv => whnf
 refine ⟨by first | omega | (simp only [List.length_append]; omega), ?_⟩; conv => whnf
 refine ⟨?_, trivial⟩; conv => whnf
 refine ans_call b59 rfl (fun w' hw => num_c e.who hR.who w' (hG.ext hw.fr)) ?_; conv => whnf
 refine ⟨⟨⟨rfl, trivial⟩, fun w' hw => hw.fr⟩, ?_⟩; conv => whnf
 refine ⟨by first | omega | (simp only [List.length_append]; omega), ?_⟩; conv => whnf
 refine ⟨?_, trivial⟩; conv => whnf
 refine bd_write (id := 1) rfl (by simp only [List.length_append, List.length_nil]; omega) ?_
 intro v1; conv => whnf
 refine ⟨⟨⟨rfl, trivial⟩, fun w' hw => hw.fr⟩, ?_⟩; conv => whnf
 simp only [List.nil_append]
 repeat refine zq ?_
 refine At.planG tab_ok mixed [(0, LO.box b 40 (encE e kk y s))] (.take 0 (.take 1 (.take 3 (.take 4 (.take 7 (.take 8 (.take 11 (.take 12 (.take 15 (.take 16 (.take 17 (.br 2 (.br 5 (.take 6 (.br 9 (.take 10 (.br 13 (.take 14 (.br 18 (.take 19 (.br 20 (.done) (.nob))) (.nob))) (.nob))) (.nob))) (.nob)) (.nob))))))))))))) (by kernel_rfl) (by kernel_rfl) ⟨rfl, trivial⟩ ?_; conv => whnf
 refine ⟨h.s.sl, ?_⟩; conv => whnf
 refine ⟨?_, trivial⟩; conv => whnf
 refine ans_call b61 rfl (fun w' hw => int_c e.n hR.n w' (hG.ext hw.fr)) ?_; conv => whnf
 refine ⟨⟨⟨rfl, trivial⟩, fun w' hw => hw.fr⟩, ?_⟩; conv => whnf
 refine ⟨?_, trivial⟩; conv => whnf
 refine ans_call b61 rfl (fun w' hw => int_c e.m hR.m w' (hG.ext hw.fr)) ?_; conv => whnf
 refine ⟨⟨⟨rfl, trivial⟩, fun w' hw => hw.fr⟩, ?_⟩; conv => whnf
 refine ⟨by first | omega | (simp only [List.length_append]; omega), ?_⟩; conv => whnf
 refine ⟨?_, trivial⟩; conv => whnf
 refine ans_call b61 rfl (fun w' hw => int_c e.ref hR.ref w' (hG.ext hw.fr)) ?_; conv => whnf
 refine ⟨⟨⟨rfl, trivial⟩, fun w' hw => hw.fr⟩, ?_⟩; conv => whnf
 refine ⟨by first | omega | (simp only [List.length_append]; omega), ?_⟩; conv => whnf
 refine ⟨?_, trivial⟩; conv => whnf
 refine ans_call b60 rfl (fun w' hw => nums_c e.keys hR.keys hR.ly [] y w' (h.y.fr hw.fr) (hG.ext hw.fr)) ?_; conv => whnf
 refine ⟨⟨⟨rfl, trivial⟩, fun w' hw => hw.fr⟩, ?_⟩; conv => whnf
 refine ⟨by first | omega | (simp only [List.length_append]; omega), ?_⟩; conv => whnf
 refine ⟨?_, trivial⟩; conv => whnf
 refine ans_call b59 rfl (fun w' hw => by rw [h.s.len]; exact num_c e.spans.length hsi w' (hG.ext hw.fr)) ?_; conv => whnf
 refine ⟨⟨⟨rfl, trivial⟩, fun w' hw => hw.fr⟩, ?_⟩; conv => whnf
 refine ⟨by first | omega | (simp only [List.length_append]; omega), ?_⟩; conv => whnf
 refine ⟨?_, trivial⟩; conv => whnf
 refine bd_write (id := 1) rfl (by simp only [List.length_append, List.length_nil]; omega) ?_
 intro v2; conv => whnf
 refine ⟨⟨⟨rfl, trivial⟩, fun w' hw => hw.fr⟩, ?_⟩; conv => whnf
 have hhd : numS e.author ++ numS e.seq ++ numS e.day ++ numsS e.knows ++ numS e.kind ++ numS e.circle ++ numS e.who = headS e := rfl
 have hmd : intS e.n ++ intS e.m ++ intS e.ref ++ numsS e.keys ++ numS (e.spans.length : Int) = midS e := rfl
 have lhd : (headS e).length ≤ 22000200 := by rw [← hhd]; simp only [List.length_append]; omega
 have lmd : (midS e).length ≤ 22000200 := by rw [← hmd]; simp only [List.length_append]; omega
 simp only [hhd, hmd]
 repeat refine zq ?_
 refine zr ?_; conv => whnf
 refine ⟨h.s.sl, ?_⟩; conv => whnf
 repeat refine zq ?_
 refine At.block ?_
 refine At.loopH (fun p' : Nat × Value => { N := Tryz.f28.ntmps, sl := [(1, some (.s (.c (.p 0 b 0)))), (3, some (.x ((ptr b3)))), (59, some (.x s)), (60, some (.i e.spans.length)), (61, some (.i p'.1))], gl := [], hp := [(1, bdO b3 p'.2 (headS e ++ midS e ++ spansS (e.spans.take p'.1))), (0, LO.box b 40 (encE e kk y s))], S := [], ws := w }) (fun p' : Nat × Value => p'.1 ≤ e.spans.length) (fun p' : Nat × Value => e.spans.length - p'.1)
  (fun w' hw => ⟨(0, v2), Nat.zero_le _, Le.of rfl rfl ⟨rfl, rfl, rfl, congrArg (Value.int .i64) h.s.len, rfl, trivial⟩, hw.keep [1, 0] ?_ rfl rfl, ⟨⟨_, _, rfl⟩, trivial⟩, trivial⟩) ?_
 ·show [(1, bdO b3 v2 _), (0, _)] = [(1, bdO b3 v2 _), (0, _)]
  simp [spansS]
 rintro ⟨k', vb⟩ hk
 simp only at hk ⊢
 have hsl := spansS_len (l := e.spans.take k') (fun n hn => hR.spans n (List.mem_of_mem_take hn))
 rw [List.length_take] at hsl
 repeat refine zq ?_
 refine zr ?_; conv => whnf
 repeat refine zq ?_
 refine At.cond rfl (fun hc => At.skip ?_) (fun hc => At.exit ?_)
 ·have hlt : k' < e.spans.length := by have := of_decide_eq_true hc; omega
  obtain ⟨x, hx⟩ : ∃ x, e.spans[k']? = some x := ⟨_, List.getElem?_eq_getElem hlt⟩
  have hxr := hR.spans x (List.mem_of_getElem? hx)
  have m1 := numS_len hxr.1.1 hxr.1.2
  have m2 := numS_len hxr.2.1.1 hxr.2.1.2
  have m3 := numS_len hxr.2.2.1 hxr.2.2.2
  repeat refine zq ?_
  refine At.block ?_
  repeat refine zq ?_
  refine zr ?_; conv => whnf
  refine ⟨by omega, ?_⟩; conv => whnf
  refine ⟨by rw [h.s.len]; omega, ?_⟩; conv => whnf
  refine ⟨encS x, fun w' hw => h.s.load (n := 3) hw.fr hx rfl, ?_⟩; conv => whnf
  intro b5; conv => whnf
  repeat refine zq ?_
  refine At.planG tab_ok mixed [(2, LO.box b5 99 (encS x))] (.take 0 (.take 1 (.take 3 (.take 4 (.take 7 (.take 8 (.br 2 (.br 5 (.take 6 (.br 9 (.take 10 (.br 11 (.done) (.nob))) (.nob))) (.nob)) (.nob)))))))) (by kernel_rfl) (by kernel_rfl) ⟨rfl, trivial⟩ ?_; conv => whnf
  refine ⟨?_, trivial⟩; conv => whnf
  refine ans_call b59 rfl (fun w' hw => num_c x.m hxr.1 w' (hG.ext hw.fr)) ?_; conv => whnf
  refine ⟨⟨⟨rfl, trivial⟩, fun w' hw => hw.fr⟩, ?_⟩; conv => whnf
  refine ⟨?_, trivial⟩; conv => whnf
  refine ans_call b59 rfl (fun w' hw => num_c x.f hxr.2.1 w' (hG.ext hw.fr)) ?_; conv => whnf
  refine ⟨⟨⟨rfl, trivial⟩, fun w' hw => hw.fr⟩, ?_⟩; conv => whnf
  refine ⟨by first | omega | (simp only [List.length_append]; omega), ?_⟩; conv => whnf
  refine ⟨?_, trivial⟩; conv => whnf
  refine ans_call b59 rfl (fun w' hw => num_c x.t hxr.2.2 w' (hG.ext hw.fr)) ?_; conv => whnf
  refine ⟨⟨⟨rfl, trivial⟩, fun w' hw => hw.fr⟩, ?_⟩; conv => whnf
  refine ⟨by first | omega | (simp only [List.length_append]; omega), ?_⟩; conv => whnf
  refine ⟨?_, trivial⟩; conv => whnf
  refine bd_write (id := 1) rfl (by simp only [List.length_append]; omega) ?_
  intro v3; conv => whnf
  refine ⟨⟨⟨rfl, trivial⟩, fun w' hw => hw.fr⟩, ?_⟩; conv => whnf
  repeat refine zq ?_
  refine zr ?_; conv => whnf
  refine ⟨⟨by omega, by omega⟩, ?_⟩; conv => whnf
  refine At.nextH fun w' hw => ⟨(k' + 1, v3), by simp only; omega, by simp only; omega, Le.of rfl rfl ⟨rfl, rfl, rfl, rfl, rfl, trivial⟩, hw.keep [1, 0] ?_ rfl rfl, ⟨⟨_, _, rfl⟩, trivial⟩, trivial⟩
  show [(1, bdO b3 v3 _), (0, _)] = [(1, bdO b3 v3 _), (0, _)]
  rw [List.take_add_one, hx, Option.toList_some, spansS_snoc]
  simp [spanS]
 ·have hge : k' = e.spans.length := by have := of_decide_eq_false hc; omega
  subst hge
  rw [List.take_length]
  have hs2 := spansS_len hR.spans
  repeat refine zq ?_
  refine zr ?_; conv => whnf
  refine ans_call b62 rfl (fun w' hw => text_c e.text (by omega) w' (hG.ext hw.fr)) ?_; conv => whnf
  refine bd_write (id := 1) rfl (by simp only [List.length_append]; omega) ?_
  intro v4; conv => whnf
  refine At.reshapeH fun w' hw => ⟨{ N := Tryz.f28.ntmps, sl := [(3, some (.x (ptr b3)))], gl := [], hp := [(1, bdO b3 v4 (headS e ++ midS e ++ spansS e.spans ++ textS e.text))], S := [], ws := w }, Le.of rfl rfl ⟨rfl, trivial⟩, hw.keep [1] rfl rfl rfl, trivial, trivial, ?_⟩
  repeat refine zq ?_
  refine zr ?_; conv => whnf
  refine bd_string rfl rfl (fun s v hm => by
   simp only [List.mem_cons, List.not_mem_nil, or_false, Prod.mk.injEq, Option.some.injEq] at hm
   obtain ⟨_, rfl⟩ := hm; rfl) ?_
  conv => whnf
  repeat refine zq ?_
  refine At.ret (At.doneB tab_ok hB _ rfl fun w' hw => ⟨?_, hw.fr⟩)
  rw [entryS, if_pos hr]
end Go.Proofs.YtdigebokbhmfaaaGreatDoor
namespace Go.Bs
open Rt
def readL : Nat → List Span → Rd → List Span × Rd
 | 0, out, r => (out, r)
 | k + 1, out, r => if 0 < r.s.length ∧ out.length ≤ 40 then readL k (out ++ [⟨(numR r).1, (numR (numR r).2).1, (numR (numR (numR r).2).2).1⟩]) (numR (numR (numR r).2).2).2 else (out, r)
def rawE (s : B) : En × Rd :=
 let a := numR ⟨s, false⟩
 let b := numR a.2
 let c := numR b.2
 let d := numsR c.2
 let e := numR d.2
 let f := numR e.2
 let g := numR f.2
 let h := intR g.2
 let i := intR h.2
 let j := intR i.2
 let k := numsR j.2
 let n := numR k.2
 let l := readL n.1.toNat [] n.2
 let t := textR l.2
 (⟨a.1, b.1, c.1, d.1, e.1, f.1, g.1, h.1, i.1, j.1, k.1, l.1, t.1⟩, t.2)
def doneR (r : Rd) : Bool := !r.bad && decide (r.s = [])
def zeroE : En := ⟨0, 0, 0, [], 0, 0, 0, 0, 0, 0, [], [], []⟩
def badE (s : B) : Bool := ((!doneR (rawE s).2) || !rightB (rawE s).1) || !decide (entryS (rawE s).1 = s)
def readE (s : B) : En × Int := if badE s then (zeroE, 2) else ((rawE s).1, 0)
theorem numR_len (r : Rd) : (numR r).2.s.length ≤ r.s.length := numberR_len _ _ r
theorem intR_len (r : Rd) : (intR r).2.s.length ≤ r.s.length := numberR_len _ _ r
theorem numR_bd (r : Rd) : iR (numR r).1 := (numberR_bd 59 r (by decide)).1
theorem numR_nn (r : Rd) : 0 ≤ (numR r).1 := (numberR_bd 59 r (least := 0) (by decide)).2 (Int.le_refl _)
theorem intR_bd (r : Rd) : iR (intR r).1 := (numberR_bd 59 r (by decide)).1
theorem numsR_len (r : Rd) : (numsR r).2.s.length ≤ r.s.length ∧ (numsR r).1.length ≤ r.s.length + 1 := by
 unfold numsR
 have h1 := numberR_len 91 0 r
 generalize numberR 91 0 r = x at h1 ⊢
 obtain ⟨n, r1⟩ := x
 simp only at h1 ⊢
 have h2 := itemsL_len n.toNat [] r1
 generalize itemsL n.toNat [] r1 = y at h2 ⊢
 obtain ⟨o, r2⟩ := y
 simp only [List.length_nil] at h2 ⊢
 have h3 := closeR_len [93] r2
 split
 ·simp only [List.length_nil]; omega
 ·simp only; omega
theorem numsR_bd (r : Rd) : ∀ x ∈ (numsR r).1, iR x := by
 unfold numsR
 generalize numberR 91 0 r = x
 obtain ⟨n, r1⟩ := x
 simp only
 have h2 := itemsL_bd n.toNat [] r1 (by simp)
 generalize itemsL n.toNat [] r1 = y at h2 ⊢
 obtain ⟨o, r2⟩ := y
 simp only at h2 ⊢
 split
 ·simp
 ·exact h2
theorem textR_len (r : Rd) : (textR r).1.length ≤ r.s.length := by
 unfold textR
 have h1 := numberR_len 58 0 r
 generalize numberR 58 0 r = x at h1 ⊢
 obtain ⟨n, r1⟩ := x
 simp only at h1 ⊢
 split
 ·simp
 ·split
  ·simp
  ·simp only [List.length_take]; omega
theorem readL_len : ∀ (k : Nat) (out : List Span) (r : Rd), out.length ≤ 41 → (readL k out r).1.length ≤ 41 ∧ (readL k out r).2.s.length ≤ r.s.length
 | 0, out, r, h => ⟨h, Nat.le_refl _⟩
 | k + 1, out, r, h => by
  unfold readL
  split
  ·rename_i hc
   have ih := readL_len k (out ++ [⟨(numR r).1, (numR (numR r).2).1, (numR (numR (numR r).2).2).1⟩]) (numR (numR (numR r).2).2).2 (by simp; omega)
   have h1 := numR_len r
   have h2 := numR_len (numR r).2
   have h3 := numR_len (numR (numR r).2).2
   exact ⟨ih.1, by omega⟩
  ·exact ⟨h, Nat.le_refl _⟩
theorem readL_bd : ∀ (k : Nat) (out : List Span) (r : Rd), (∀ s ∈ out, iR s.m ∧ iR s.f ∧ iR s.t) → ∀ s ∈ (readL k out r).1, iR s.m ∧ iR s.f ∧ iR s.t
 | 0, out, r, h => h
 | k + 1, out, r, h => by
  unfold readL
  split
  ·refine readL_bd k _ _ fun s hs => ?_
   rcases List.mem_append.1 hs with hs | hs
   ·exact h s hs
   ·rw [List.mem_singleton.1 hs]; exact ⟨numR_bd _, numR_bd _, numR_bd _⟩
  ·exact h
theorem rawE_R (s : B) (hs : s.length ≤ 900000) : EnR (rawE s).1 := by
 unfold rawE
 simp only
 have e0 : (⟨s, false⟩ : Rd).s.length = s.length := rfl
 have h1 := numR_len ⟨s, false⟩
 generalize ha : numR ⟨s, false⟩ = a at h1 ⊢
 have h2 := numR_len a.2
 generalize hb : numR a.2 = b at h2 ⊢
 have h3 := numR_len b.2
 generalize hc : numR b.2 = c at h3 ⊢
 have h4 := numsR_len c.2
 have b4 := numsR_bd c.2
 generalize hd : numsR c.2 = d at h4 b4 ⊢
 have h5 := numR_len d.2
 generalize he : numR d.2 = e at h5 ⊢
 have h6 := numR_len e.2
 generalize hf : numR e.2 = f at h6 ⊢
 have h7 := numR_len f.2
 generalize hg : numR f.2 = g at h7 ⊢
 have h8 := intR_len g.2
 generalize hh : intR g.2 = h at h8 ⊢
 have h9 := intR_len h.2
 generalize hi : intR h.2 = i at h9 ⊢
 have h10 := intR_len i.2
 generalize hj : intR i.2 = j at h10 ⊢
 have h11 := numsR_len j.2
 have b21 := numsR_bd j.2
 generalize hk : numsR j.2 = k at h11 b21 ⊢
 have h12 := numR_len k.2
 generalize hn : numR k.2 = n at h12 ⊢
 have h13 := readL_len n.1.toNat [] n.2 (by decide)
 have b23 := readL_bd n.1.toNat [] n.2 (by simp)
 generalize hl : readL n.1.toNat [] n.2 = l at h13 b23 ⊢
 have h14 := textR_len l.2
 refine { author := ?_, seq := ?_, day := ?_, kind := ?_, circle := ?_, who := ?_, n := ?_, m := ?_, ref := ?_, knows := b4, keys := b21, spans := b23, lk := ?_, ly := ?_, ls := ?_, lt := ?_ }
 ·rw [← ha]; exact numR_bd _
 ·rw [← hb]; exact numR_bd _
 ·rw [← hc]; exact numR_bd _
 ·rw [← he]; exact numR_bd _
 ·rw [← hf]; exact numR_bd _
 ·rw [← hg]; exact numR_bd _
 ·rw [← hh]; exact intR_bd _
 ·rw [← hi]; exact intR_bd _
 ·rw [← hj]; exact intR_bd _
 ·simp only; omega
 ·simp only; omega
 ·simp only; omega
 ·simp only; omega
end Go.Bs
namespace Go.Proofs.YtdigebokbhmfaaaGreatDoor
open Go.Vc Rt Go.Bs
set_option maxHeartbeats 2000000
theorem look_pushed {st : St} {o : LO} : Vc.look (st.push o).hp (nid st.hp) = some o := by
 obtain ⟨N, sl, gl, hp, S, ws, df⟩ := st
 show Vc.look ((nid hp, o) :: hp) (nid hp) = some o
 simp [Vc.look]
theorem newbox_call {st : St} {d : Option Nat} {K : St → Prop} {f : FuncId} {args : List Value} {T : TypeId} {cells : List CV} (hb : Body Tryz.prog f) (hc : ∀ c ∈ cells, noP c = true)
  (h : ∀ w, Holds st w → Calls Tryz.prog f args.toArray w (fun e w' => ∃ b, e = .returned (ptr b) ∧ (LO.box b T cells).holds w' ∧ w.heap.size ≤ b ∧ Ext w w'))
  (hk : ∀ b : Nat, (∃ w, Holds st w ∧ w.heap.size ≤ b) → st.pushK (.box b T cells) (fun n st' => goPut st' d (.s (.c (.p n b 0))) K)) : UCall Tryz.prog st f args d K :=
 .inl ⟨hb, fun hwf w hw => (h w hw).mono fun e w' ⟨b, he, h1, h2, h3⟩ => by
  have hk' := hk b ⟨w, hw, h2⟩
  rw [pushK_eq] at hk'
  refine ⟨.s (.c (.p (nid st.hp) b 0)), st.push (.box b T cells), he, ⟨rfl, rfl, rfl, rfl⟩, hwf.push (fun c hc' => ?_), ⟨_, _, look_pushed⟩, hw.pushG h3 h1 (fun x hx => ?_), hk'⟩
  ·have := hc c hc'
   cases c <;> first | trivial | simp [noP] at this
  ·rw [List.mem_singleton.1 hx]; exact h2⟩
theorem Holds.nilSet {st st' : St} {w : World} (h : Holds st w) {idb b : Nat} {T : TypeId} {cells cells' : List CV} {i5 E size : Nat} (hl : Vc.look st.hp idb = some (.box b T cells)) (hd : dens cells' = dens cells)
  (h1 : st'.hp = (i5, .row (.slice none 0 0) E size []) :: hpSet st.hp idb (.box b T cells')) (hS : st'.S = st.S) (hws : st'.ws = st.ws) : Holds st' w := by
 have ho : (LO.box b T cells').holds w := by
  show w.heap[b]? = some (.cells (dens cells').toArray T (0, 0))
  rw [hd]; exact h.box hl
 exact (h.setG hl (Fr.refl _ _) ho (fun x hx => .inl hx)).nil h1 hS hws
@[reducible] def rdE (a b c : Int) (vd : Value) (e f g h i j : Int) (vk vo : Value) (t : List UInt8) : List CV := [.i a, .i b, .i c, .o 2 vd, .i e, .i f, .i g, .i h, .i i, .i j, .o 3 vk, .o 5 vo, .s t]
theorem rdE_ok {hp : List (Nat × LO)} {a b c e f g h i j : Int} {vd vk vo : Value} {t : List UInt8} (h1 : ∃ E size L, Vc.look hp 2 = some (.row vd E size L)) (h2 : ∃ E size L, Vc.look hp 3 = some (.row vk E size L)) (h3 : ∃ E size L, Vc.look hp 5 = some (.row vo E size L)) : ∀ x ∈ rdE a b c vd e f g h i j vk vo t, CVokH hp x := by
 intro x hx
 simp only [List.mem_cons, List.not_mem_nil, or_false] at hx
 rcases hx with rfl | rfl | rfl | rfl | rfl | rfl | rfl | rfl | rfl | rfl | rfl | rfl | rfl <;> first | trivial | assumption
theorem hpSet_same : ∀ {hp : List (Nat × LO)} {id : Nat} {o : LO}, Vc.look hp id = some o → hpSet hp id o = hp
 | [], _, _, h => by cases h
 | (t, v) :: r, id, o, h => by
  unfold Vc.look at h
  unfold hpSet
  split at h
  ·rename_i e; cases h
   simp_all
  ·rename_i e
   simp_all [hpSet_same]
theorem rd_quiet {st : St} {id b : Nat} {f : FuncId} {args : List Value} {r : Rd} {v : RV} (hb : Body Tryz.prog f) (hl : Vc.look st.hp id = some (rdO b r))
  (h : ∀ w, Holds st w → RdAt w b r → RdF f args b v r w) : QCall Tryz.prog st f args v :=
 .inl ⟨hb, fun w hw => (h w hw (hw.box hl)).mono fun e w' ⟨he, h1, h2⟩ => ⟨he, by
  have := hw.setG hl h2 (o' := rdO b r) h1 (fun x hx => .inl hx)
  rw [hpSet_same hl] at this
  exact this.same rfl rfl rfl⟩⟩
structure Rows3 (e : En) (n0 : Nat) (w : World) (k y s : Value) : Prop where
 rk : (LO.row k 3 1 (e.knows.map encI)).holds w
 ry : (LO.row y 3 1 (e.keys.map encI)).holds w
 rs : (LO.row s 99 3 (e.spans.map encS)).holds w
 fresh : ∀ b, b ∈ blkOf k ∨ b ∈ blkOf y ∨ b ∈ blkOf s → n0 ≤ b
 dky : ∀ b ∈ blkOf k, b ∉ blkOf y
 dks : ∀ b ∈ blkOf k, b ∉ blkOf s
 dys : ∀ b ∈ blkOf y, b ∉ blkOf s
theorem read_c (s : List UInt8) (hs : s.length ≤ 900000) (w : World) (hG : Gl w) :
  Calls Tryz.prog 55 #[sv s] w (fun e w' => ∃ k y sp : Value, e = .returned (.tuple #[vE (readE s).1 k y sp, vI (readE s).2]) ∧ Rows3 (readE s).1 w.heap.size w' k y sp ∧ Ext w w') := by
 have h8 := hG.size
 refine calls_plainB [rS s] Tryz.func55 rfl rfl (Nat.le_of_ble_eq_true rfl) rfl fun B hB => ?_
 repeat refine zq ?_
 refine zr ?_; conv => whnf
 intro b2; conv => whnf
 repeat refine zq ?_
 refine zr ?_; conv => whnf
 refine newbox_call (T := 212) (cells := rdC ⟨s, false⟩) b83 (by intro c hc; simp only [List.mem_cons, List.not_mem_nil, or_false] at hc; rcases hc with rfl | rfl <;> rfl) (fun w' hw => (open_c s w').mono fun e w'' ⟨b, h1, h2, h3, h4⟩ => ⟨b, h1, h2, h3, h4⟩) ?_
 rintro b ⟨w1, hw1, hb1⟩
 have hb : 8 ≤ b := Nat.le_trans (Nat.le_trans h8 hw1.fr.size) hb1
 clear hw1 hb1
 conv => whnf
 repeat refine zq ?_
 refine zr ?_; conv => whnf
 have z0 : (⟨s, false⟩ : Rd).s.length ≤ 900000 := hs
 have z_a := numR_len (⟨s, false⟩)
 refine rd_call (id := 1) (v := .i (numR (⟨s, false⟩)).1) (r' := (numR (⟨s, false⟩)).2) b84 rfl rfl (fun w' hw h => rnum_c b _ w' h (hG.ext hw.fr) hb) ?_; conv => whnf
 generalize q_a : numR (⟨s, false⟩) = a' at z_a ⊢
 have z_b := numR_len (a'.2)
 refine rd_call (id := 1) (v := .i (numR (a'.2)).1) (r' := (numR (a'.2)).2) b84 rfl rfl (fun w' hw h => rnum_c b _ w' h (hG.ext hw.fr) hb) ?_; conv => whnf
 generalize q_b : numR (a'.2) = b' at z_b ⊢
 have z_c := numR_len (b'.2)
 refine rd_call (id := 1) (v := .i (numR (b'.2)).1) (r' := (numR (b'.2)).2) b84 rfl rfl (fun w' hw h => rnum_c b _ w' h (hG.ext hw.fr) hb) ?_; conv => whnf
 generalize q_c : numR (b'.2) = c' at z_c ⊢
 have z_d := (numsR_len (c'.2)).1
 refine rds_call (id := 1) (xs := (numsR (c'.2)).1) (r' := (numsR (c'.2)).2) b85 rfl (fun w' hw h => nums_r b _ w' h (hG.ext hw.fr) hb (by omega)) ?_
 intro v_d; conv => whnf
 generalize q_d : numsR (c'.2) = d' at z_d ⊢
 have z_e := numR_len (d'.2)
 refine rd_call (id := 1) (v := .i (numR (d'.2)).1) (r' := (numR (d'.2)).2) b84 rfl rfl (fun w' hw h => rnum_c b _ w' h (hG.ext hw.fr) hb) ?_; conv => whnf
 generalize q_e : numR (d'.2) = e' at z_e ⊢
 have z_f := numR_len (e'.2)
 refine rd_call (id := 1) (v := .i (numR (e'.2)).1) (r' := (numR (e'.2)).2) b84 rfl rfl (fun w' hw h => rnum_c b _ w' h (hG.ext hw.fr) hb) ?_; conv => whnf
 generalize q_f : numR (e'.2) = f' at z_f ⊢
 have z_g := numR_len (f'.2)
 refine rd_call (id := 1) (v := .i (numR (f'.2)).1) (r' := (numR (f'.2)).2) b84 rfl rfl (fun w' hw h => rnum_c b _ w' h (hG.ext hw.fr) hb) ?_; conv => whnf
 generalize q_g : numR (f'.2) = g' at z_g ⊢
 have z_h := intR_len (g'.2)
 refine rd_call (id := 1) (v := .i (intR (g'.2)).1) (r' := (intR (g'.2)).2) b86 rfl rfl (fun w' hw h => rint_c b _ w' h (hG.ext hw.fr) hb) ?_; conv => whnf
 generalize q_h : intR (g'.2) = h' at z_h ⊢
 have z_i := intR_len (h'.2)
 refine rd_call (id := 1) (v := .i (intR (h'.2)).1) (r' := (intR (h'.2)).2) b86 rfl rfl (fun w' hw h => rint_c b _ w' h (hG.ext hw.fr) hb) ?_; conv => whnf
 generalize q_i : intR (h'.2) = i' at z_i ⊢
 have z_j := intR_len (i'.2)
 refine rd_call (id := 1) (v := .i (intR (i'.2)).1) (r' := (intR (i'.2)).2) b86 rfl rfl (fun w' hw h => rint_c b _ w' h (hG.ext hw.fr) hb) ?_; conv => whnf
 generalize q_j : intR (i'.2) = j' at z_j ⊢
 have z_k := (numsR_len (j'.2)).1
 refine rds_call (id := 1) (xs := (numsR (j'.2)).1) (r' := (numsR (j'.2)).2) b85 rfl (fun w' hw h => nums_r b _ w' h (hG.ext hw.fr) hb (by omega)) ?_
 intro v_k; conv => whnf
 generalize q_k : numsR (j'.2) = k' at z_k ⊢
 intro b5; conv => whnf
 refine ⟨rfl, ?_⟩; conv => whnf
 repeat refine zq ?_
 refine zr ?_; conv => whnf
 have z_n := numR_len k'.2
 have n_nn := numR_nn k'.2
 have n_bd := numR_bd k'.2
 refine rd_call (id := 1) (v := .i (numR k'.2).1) (r' := (numR k'.2).2) b84 rfl rfl (fun w' hw h => rnum_c b _ w' h (hG.ext hw.fr) hb) ?_; conv => whnf
 generalize q_n : numR k'.2 = n' at z_n n_nn n_bd ⊢
 have n_b1 := n_bd.1
 have n_b2 := n_bd.2
 refine At.reshapeH fun w' hw => ⟨{ N := Tryz.f55.ntmps, sl := [(0, some (rS s)), (2, some (.s (.c (.p 0 b2 0)))), (3, some (.i 0)), (4, some (.s (.c (.p 1 b 0)))), (5, some (.s (.c (.p 4 b5 0)))), (6, some (.i n'.1))], gl := [], hp := [(5, .row (.slice none 0 0) 99 3 []), (4, .box b5 40 (rdE a'.1 b'.1 c'.1 v_d e'.1 f'.1 g'.1 h'.1 i'.1 j'.1 v_k (.slice none 0 0) [])), (3, .row v_k 3 1 (k'.1.map encI)), (2, .row v_d 3 1 (d'.1.map encI)), (1, rdO b n'.2), (0, .box b2 40 [.i 0, .i 0, .i 0, .x (.slice none 0 0), .i 0, .i 0, .i 0, .i 0, .i 0, .i 0, .x (.slice none 0 0), .x (.slice none 0 0), .s []])], S := [], ws := w }, Le.of rfl rfl ⟨rfl, rfl, rfl, rfl, rfl, rfl, trivial⟩, ?_, ?_, ?_, ?_⟩
 ·exact Holds.nilSet (idb := 4) (b := b5) (T := 40) (cells := [.i a'.1, .i b'.1, .i c'.1, .o 2 v_d, .i e'.1, .i f'.1, .i g'.1, .i h'.1, .i i'.1, .i j'.1, .o 3 v_k, .x (.slice none 0 0), .s []]) (cells' := rdE a'.1 b'.1 c'.1 v_d e'.1 f'.1 g'.1 h'.1 i'.1 j'.1 v_k (.slice none 0 0) []) hw rfl rfl rfl rfl rfl
 ·exact ⟨⟨_, _, rfl⟩, ⟨_, _, rfl⟩, ⟨_, _, rfl⟩, trivial⟩
 ·exact ⟨(nopS []).okH, rdE_ok ⟨_, _, _, rfl⟩ ⟨_, _, _, rfl⟩ ⟨_, _, _, rfl⟩, (nopI _).okH, (nopI _).okH, trivial⟩
 repeat refine zq ?_
 refine At.block ?_
 refine At.loopH (fun p' : Nat × List Span × Rd × Value => { N := Tryz.f55.ntmps, sl := [(0, some (rS s)), (2, some (.s (.c (.p 0 b2 0)))), (3, some (.i 0)), (4, some (.s (.c (.p 1 b 0)))), (5, some (.s (.c (.p 4 b5 0)))), (6, some (.i p'.1))], gl := [], hp := [(5, .row p'.2.2.2 99 3 (p'.2.1.map encS)), (4, LO.box b5 40 (rdE a'.1 b'.1 c'.1 v_d e'.1 f'.1 g'.1 h'.1 i'.1 j'.1 v_k p'.2.2.2 [])), (3, .row v_k 3 1 (k'.1.map encI)), (2, .row v_d 3 1 (d'.1.map encI)), (1, rdO b p'.2.2.1), (0, LO.box b2 40 [.i 0, .i 0, .i 0, .x (.slice none 0 0), .i 0, .i 0, .i 0, .i 0, .i 0, .i 0, .x (.slice none 0 0), .x (.slice none 0 0), .s []])], S := [], ws := w }) (fun p' : Nat × List Span × Rd × Value => readL p'.1 p'.2.1 p'.2.2.1 = readL n'.1.toNat [] n'.2 ∧ p'.2.1.length ≤ 41 ∧ (p'.1 : Int) ≤ n'.1) (fun p' : Nat × List Span × Rd × Value => p'.1)
  (fun w' hw => ⟨(n'.1.toNat, [], n'.2, .slice none 0 0), ⟨rfl, by simp, by simp only; omega⟩, Le.of rfl rfl ⟨rfl, rfl, rfl, rfl, rfl, congrArg (Value.int .i64) (by simp only; omega), trivial⟩, hw.keep [5, 4, 3, 2, 1, 0] rfl rfl rfl, ⟨⟨_, _, rfl⟩, ⟨_, _, rfl⟩, ⟨_, _, rfl⟩, trivial⟩, ⟨(nopS _).okH, rdE_ok ⟨_, _, _, rfl⟩ ⟨_, _, _, rfl⟩ ⟨_, _, _, rfl⟩, (nopI _).okH, (nopI _).okH, trivial⟩⟩) ?_
 rintro ⟨kk, out, rr, vo⟩ ⟨hI, hI2, hI3⟩
 simp only at hI hI2 hI3 ⊢
 repeat refine zq ?_
 refine zr ?_; conv => whnf
 refine ⟨.i rr.s.length, gimp_of (rd_quiet (id := 1) (r := rr) b87 rfl (fun w' hw h => left_c b rr w' h)), ?_⟩; conv => whnf
 refine ⟨by simp only [gimp]; intros; trivial, ?_⟩; conv => whnf
 repeat refine zq ?_
 refine At.cond rfl (fun hc => At.skip ?_) (fun hc => At.exit ?_)
 ·simp at hc
  obtain ⟨⟨hk, hr0⟩, ho⟩ := hc
  obtain ⟨kk, rfl⟩ : ∃ k', kk = k' + 1 := ⟨kk - 1, by omega⟩
  have hst : readL (kk + 1) out rr = readL kk (out ++ [⟨(numR rr).1, (numR (numR rr).2).1, (numR (numR (numR rr).2).2).1⟩]) (numR (numR (numR rr).2).2).2 := by
   show (if 0 < rr.s.length ∧ out.length ≤ 40 then _ else _) = _
   rw [if_pos ⟨by omega, by omega⟩]
  repeat refine zq ?_
  refine At.block ?_
  repeat refine zq ?_
  refine At.planG tab_ok mixed [] (.take 0 (.take 2 (.take 4 (.take 6 (.br 1 (.br 3 (.br 5 (.br 7 (.take 8 (.br 9 (.br 10 (.take 11 (.br 12 (.done) (.nob))) (.nob)) (.nob))) (.nob)) (.nob)) (.nob)) (.br 3 (.br 1 (.br 5 (.br 7 (.take 8 (.br 9 (.br 10 (.take 11 (.br 12 (.done) (.nob))) (.nob)) (.nob))) (.nob)) (.nob)) (.br 5 (.br 1 (.br 7 (.take 8 (.br 9 (.br 10 (.take 11 (.br 12 (.done) (.nob))) (.nob)) (.nob))) (.nob)) (.br 7 (.take 8 (.br 1 (.br 9 (.br 10 (.take 11 (.br 12 (.done) (.nob))) (.nob)) (.nob)) (.br 9 (.br 1 (.br 10 (.take 11 (.br 12 (.done) (.nob))) (.nob)) (.nob)) (.nob)))) (.nob))) (.nob))) (.nob))))))) (by kernel_rfl) (by kernel_rfl) trivial ?_; conv => whnf
  refine ⟨?_, ?_, trivial⟩
  ·conv => whnf
   refine ⟨⟨trivial, fun w' hw => hw.fr⟩, ?_⟩; conv => whnf
   refine ⟨?_, trivial⟩; conv => whnf
   refine rd_call (id := 1) (v := .i (numR rr).1) (r' := (numR rr).2) b84 rfl rfl (fun w' hw h => rnum_c b _ w' h (hG.ext hw.fr) hb) ?_; conv => whnf
   refine ⟨⟨trivial, fun w' hw => hw.fr⟩, ?_⟩; conv => whnf
   refine ⟨?_, trivial⟩; conv => whnf
   refine rd_call (id := 1) (v := .i (numR (numR rr).2).1) (r' := (numR (numR rr).2).2) b84 rfl rfl (fun w' hw h => rnum_c b _ w' h (hG.ext hw.fr) hb) ?_; conv => whnf
   refine ⟨⟨trivial, fun w' hw => hw.fr⟩, ?_⟩; conv => whnf
   refine ⟨?_, trivial⟩; conv => whnf
   refine rd_call (id := 1) (v := .i (numR (numR (numR rr).2).2).1) (r' := (numR (numR (numR rr).2).2).2) b84 rfl rfl (fun w' hw h => rnum_c b _ w' h (hG.ext hw.fr) hb) ?_; conv => whnf
   refine ⟨⟨trivial, fun w' hw => hw.fr⟩, ?_⟩; conv => whnf
   refine ⟨?_, trivial⟩; conv => whnf
   intro v8; conv => whnf
   refine ⟨⟨trivial, fun w' hw => hw.fr⟩, ?_⟩; conv => whnf
   refine ⟨?_, trivial⟩; conv => whnf
   refine ⟨rfl, ?_⟩; conv => whnf
   refine ⟨⟨rfl, by simp; omega⟩, ?_⟩; conv => whnf
   intro v9; conv => whnf
   refine ⟨⟨trivial, fun w' hw => hw.fr⟩, ?_⟩; conv => whnf
   refine ⟨?_, trivial⟩; conv => whnf
   refine ⟨⟨trivial, fun w' hw => hw.fr⟩, ?_⟩; conv => whnf
   repeat refine zq ?_
   refine zr ?_; conv => whnf
   refine ⟨⟨by omega, by omega⟩, ?_⟩; conv => whnf
   refine At.nextH fun w' hw => ⟨(kk, out ++ [⟨(numR rr).1, (numR (numR rr).2).1, (numR (numR (numR rr).2).2).1⟩], (numR (numR (numR rr).2).2).2, v9), ⟨by rw [← hst]; exact hI, by simp; omega, by simp only; omega⟩, by simp only; omega, Le.of rfl rfl ⟨rfl, rfl, rfl, rfl, rfl, congrArg (Value.int .i64) (by simp only; omega), trivial⟩, hw.keep [5, 4, 3, 2, 1, 0] ?_ rfl rfl, ⟨⟨_, _, rfl⟩, ⟨_, _, rfl⟩, ⟨_, _, rfl⟩, trivial⟩, ⟨(nopS _).okH, rdE_ok ⟨_, _, _, rfl⟩ ⟨_, _, _, rfl⟩ ⟨_, _, _, rfl⟩, (nopI _).okH, (nopI _).okH, trivial⟩⟩
   simp only [List.map_append]; rfl
  ·conv => whnf
   refine rd_call (id := 1) (v := .i (numR rr).1) (r' := (numR rr).2) b84 rfl rfl (fun w' hw h => rnum_c b _ w' h (hG.ext hw.fr) hb) ?_; conv => whnf
   refine ⟨⟨trivial, fun w' hw => hw.fr⟩, ?_⟩; conv => whnf
   refine ⟨?_, ?_, trivial⟩
   ·conv => whnf
    refine ⟨⟨trivial, fun w' hw => hw.fr⟩, ?_⟩; conv => whnf
    refine ⟨?_, trivial⟩; conv => whnf
    refine rd_call (id := 1) (v := .i (numR (numR rr).2).1) (r' := (numR (numR rr).2).2) b84 rfl rfl (fun w' hw h => rnum_c b _ w' h (hG.ext hw.fr) hb) ?_; conv => whnf
    refine ⟨⟨trivial, fun w' hw => hw.fr⟩, ?_⟩; conv => whnf
    refine ⟨?_, trivial⟩; conv => whnf
    refine rd_call (id := 1) (v := .i (numR (numR (numR rr).2).2).1) (r' := (numR (numR (numR rr).2).2).2) b84 rfl rfl (fun w' hw h => rnum_c b _ w' h (hG.ext hw.fr) hb) ?_; conv => whnf
    refine ⟨⟨trivial, fun w' hw => hw.fr⟩, ?_⟩; conv => whnf
    refine ⟨?_, trivial⟩; conv => whnf
    intro v8; conv => whnf
    refine ⟨⟨trivial, fun w' hw => hw.fr⟩, ?_⟩; conv => whnf
    refine ⟨?_, trivial⟩; conv => whnf
    refine ⟨rfl, ?_⟩; conv => whnf
    refine ⟨⟨rfl, by simp; omega⟩, ?_⟩; conv => whnf
    intro v9; conv => whnf
    refine ⟨⟨trivial, fun w' hw => hw.fr⟩, ?_⟩; conv => whnf
    refine ⟨?_, trivial⟩; conv => whnf
    refine ⟨⟨trivial, fun w' hw => hw.fr⟩, ?_⟩; conv => whnf
    repeat refine zq ?_
    refine zr ?_; conv => whnf
    refine ⟨⟨by omega, by omega⟩, ?_⟩; conv => whnf
    refine At.nextH fun w' hw => ⟨(kk, out ++ [⟨(numR rr).1, (numR (numR rr).2).1, (numR (numR (numR rr).2).2).1⟩], (numR (numR (numR rr).2).2).2, v9), ⟨by rw [← hst]; exact hI, by simp; omega, by simp only; omega⟩, by simp only; omega, Le.of rfl rfl ⟨rfl, rfl, rfl, rfl, rfl, congrArg (Value.int .i64) (by simp only; omega), trivial⟩, hw.keep [5, 4, 3, 2, 1, 0] ?_ rfl rfl, ⟨⟨_, _, rfl⟩, ⟨_, _, rfl⟩, ⟨_, _, rfl⟩, trivial⟩, ⟨(nopS _).okH, rdE_ok ⟨_, _, _, rfl⟩ ⟨_, _, _, rfl⟩ ⟨_, _, _, rfl⟩, (nopI _).okH, (nopI _).okH, trivial⟩⟩
    simp only [List.map_append]; rfl
   ·conv => whnf
    refine rd_call (id := 1) (v := .i (numR (numR rr).2).1) (r' := (numR (numR rr).2).2) b84 rfl rfl (fun w' hw h => rnum_c b _ w' h (hG.ext hw.fr) hb) ?_; conv => whnf
    refine ⟨⟨trivial, fun w' hw => hw.fr⟩, ?_⟩; conv => whnf
    refine ⟨?_, ?_, trivial⟩
    ·conv => whnf
     refine ⟨⟨trivial, fun w' hw => hw.fr⟩, ?_⟩; conv => whnf
     refine ⟨?_, trivial⟩; conv => whnf
     refine rd_call (id := 1) (v := .i (numR (numR (numR rr).2).2).1) (r' := (numR (numR (numR rr).2).2).2) b84 rfl rfl (fun w' hw h => rnum_c b _ w' h (hG.ext hw.fr) hb) ?_; conv => whnf
     refine ⟨⟨trivial, fun w' hw => hw.fr⟩, ?_⟩; conv => whnf
     refine ⟨?_, trivial⟩; conv => whnf
     intro v8; conv => whnf
     refine ⟨⟨trivial, fun w' hw => hw.fr⟩, ?_⟩; conv => whnf
     refine ⟨?_, trivial⟩; conv => whnf
     refine ⟨rfl, ?_⟩; conv => whnf
     refine ⟨⟨rfl, by simp; omega⟩, ?_⟩; conv => whnf
     intro v9; conv => whnf
     refine ⟨⟨trivial, fun w' hw => hw.fr⟩, ?_⟩; conv => whnf
     refine ⟨?_, trivial⟩; conv => whnf
     refine ⟨⟨trivial, fun w' hw => hw.fr⟩, ?_⟩; conv => whnf
     repeat refine zq ?_
     refine zr ?_; conv => whnf
     refine ⟨⟨by omega, by omega⟩, ?_⟩; conv => whnf
     refine At.nextH fun w' hw => ⟨(kk, out ++ [⟨(numR rr).1, (numR (numR rr).2).1, (numR (numR (numR rr).2).2).1⟩], (numR (numR (numR rr).2).2).2, v9), ⟨by rw [← hst]; exact hI, by simp; omega, by simp only; omega⟩, by simp only; omega, Le.of rfl rfl ⟨rfl, rfl, rfl, rfl, rfl, congrArg (Value.int .i64) (by simp only; omega), trivial⟩, hw.keep [5, 4, 3, 2, 1, 0] ?_ rfl rfl, ⟨⟨_, _, rfl⟩, ⟨_, _, rfl⟩, ⟨_, _, rfl⟩, trivial⟩, ⟨(nopS _).okH, rdE_ok ⟨_, _, _, rfl⟩ ⟨_, _, _, rfl⟩ ⟨_, _, _, rfl⟩, (nopI _).okH, (nopI _).okH, trivial⟩⟩
     simp only [List.map_append]; rfl
    ·conv => whnf
     refine rd_call (id := 1) (v := .i (numR (numR (numR rr).2).2).1) (r' := (numR (numR (numR rr).2).2).2) b84 rfl rfl (fun w' hw h => rnum_c b _ w' h (hG.ext hw.fr) hb) ?_; conv => whnf
     refine ⟨⟨trivial, fun w' hw => hw.fr⟩, ?_⟩; conv => whnf
     refine ⟨?_, ?_, trivial⟩
     ·conv => whnf
      refine ⟨⟨trivial, fun w' hw => hw.fr⟩, ?_⟩; conv => whnf
      refine ⟨?_, trivial⟩; conv => whnf
      intro v8; conv => whnf
      refine ⟨⟨trivial, fun w' hw => hw.fr⟩, ?_⟩; conv => whnf
      refine ⟨?_, trivial⟩; conv => whnf
      refine ⟨rfl, ?_⟩; conv => whnf
      refine ⟨⟨rfl, by simp; omega⟩, ?_⟩; conv => whnf
      intro v9; conv => whnf
      refine ⟨⟨trivial, fun w' hw => hw.fr⟩, ?_⟩; conv => whnf
      refine ⟨?_, trivial⟩; conv => whnf
      refine ⟨⟨trivial, fun w' hw => hw.fr⟩, ?_⟩; conv => whnf
      repeat refine zq ?_
      refine zr ?_; conv => whnf
      refine ⟨⟨by omega, by omega⟩, ?_⟩; conv => whnf
      refine At.nextH fun w' hw => ⟨(kk, out ++ [⟨(numR rr).1, (numR (numR rr).2).1, (numR (numR (numR rr).2).2).1⟩], (numR (numR (numR rr).2).2).2, v9), ⟨by rw [← hst]; exact hI, by simp; omega, by simp only; omega⟩, by simp only; omega, Le.of rfl rfl ⟨rfl, rfl, rfl, rfl, rfl, congrArg (Value.int .i64) (by simp only; omega), trivial⟩, hw.keep [5, 4, 3, 2, 1, 0] ?_ rfl rfl, ⟨⟨_, _, rfl⟩, ⟨_, _, rfl⟩, ⟨_, _, rfl⟩, trivial⟩, ⟨(nopS _).okH, rdE_ok ⟨_, _, _, rfl⟩ ⟨_, _, _, rfl⟩ ⟨_, _, _, rfl⟩, (nopI _).okH, (nopI _).okH, trivial⟩⟩
      simp only [List.map_append]; rfl
     ·conv => whnf
      intro v8; conv => whnf
      refine ⟨⟨trivial, fun w' hw => hw.fr⟩, ?_⟩; conv => whnf
      refine ⟨?_, trivial⟩; conv => whnf
      refine ⟨⟨trivial, fun w' hw => hw.fr⟩, ?_⟩; conv => whnf
      refine ⟨?_, trivial⟩; conv => whnf
      refine ⟨rfl, ?_⟩; conv => whnf
      refine ⟨⟨rfl, by simp; omega⟩, ?_⟩; conv => whnf
      intro v9; conv => whnf
      refine ⟨⟨trivial, fun w' hw => hw.fr⟩, ?_⟩; conv => whnf
      refine ⟨?_, trivial⟩; conv => whnf
      refine ⟨⟨trivial, fun w' hw => hw.fr⟩, ?_⟩; conv => whnf
      repeat refine zq ?_
      refine zr ?_; conv => whnf
      refine ⟨⟨by omega, by omega⟩, ?_⟩; conv => whnf
      refine At.nextH fun w' hw => ⟨(kk, out ++ [⟨(numR rr).1, (numR (numR rr).2).1, (numR (numR (numR rr).2).2).1⟩], (numR (numR (numR rr).2).2).2, v9), ⟨by rw [← hst]; exact hI, by simp; omega, by simp only; omega⟩, by simp only; omega, Le.of rfl rfl ⟨rfl, rfl, rfl, rfl, rfl, congrArg (Value.int .i64) (by simp only; omega), trivial⟩, hw.keep [5, 4, 3, 2, 1, 0] ?_ rfl rfl, ⟨⟨_, _, rfl⟩, ⟨_, _, rfl⟩, ⟨_, _, rfl⟩, trivial⟩, ⟨(nopS _).okH, rdE_ok ⟨_, _, _, rfl⟩ ⟨_, _, _, rfl⟩ ⟨_, _, _, rfl⟩, (nopI _).okH, (nopI _).okH, trivial⟩⟩
      simp only [List.map_append]; rfl
 ·simp at hc
  have hst : readL n'.1.toNat [] n'.2 = (out, rr) := by
   rw [← hI]
   cases kk with
   | zero => rfl
   | succ kk =>
    show (if 0 < rr.s.length ∧ out.length ≤ 40 then _ else _) = _
    rw [if_neg]
    rintro ⟨h1, h2⟩
    have := hc (by omega) (by omega)
    omega
  repeat refine zq ?_
  refine zr ?_; conv => whnf
  have z_t := textR_len rr
  refine rd_call (id := 1) (v := rS (textR rr).1) (r' := (textR rr).2) b88 rfl rfl (fun w' hw h => rtext_c b _ w' h (hG.ext hw.fr) hb) ?_; conv => whnf
  have hraw : rawE s = (⟨a'.1, b'.1, c'.1, d'.1, e'.1, f'.1, g'.1, h'.1, i'.1, j'.1, k'.1, out, (textR rr).1⟩, (textR rr).2) := by
   unfold rawE
   simp only [q_a, q_b, q_c, q_d, q_e, q_f, q_g, q_h, q_i, q_j, q_k, q_n, hst]
  generalize q_t : textR rr = t' at z_t hraw ⊢
  repeat refine zq ?_
  refine zr ?_; conv => whnf
  have hRE : EnR ⟨a'.1, b'.1, c'.1, d'.1, e'.1, f'.1, g'.1, h'.1, i'.1, j'.1, k'.1, out, t'.1⟩ := by have := rawE_R s hs; rw [hraw] at this; exact this
  have hlk := hRE.lk
  have hly := hRE.ly
  simp only at hlk hly
  refine rd_call (id := 1) (v := .b (!t'.2.bad && decide (t'.2.s = []))) (r' := t'.2) b89 rfl rfl (fun w' hw h => done_c b _ w' h) ?_; conv => whnf
  refine ⟨.b (rightB ⟨a'.1, b'.1, c'.1, d'.1, e'.1, f'.1, g'.1, h'.1, i'.1, j'.1, k'.1, out, t'.1⟩), gimp_of (ans_quiet b57 (fun w' hw => right_c ⟨a'.1, b'.1, c'.1, d'.1, e'.1, f'.1, g'.1, h'.1, i'.1, j'.1, k'.1, out, t'.1⟩ v_d v_k vo [] w' ⟨slI _ (hw.row (id := 2) rfl) hlk, slI _ (hw.row (id := 3) rfl) hly, slS _ (hw.row (id := 5) rfl) (Nat.le_trans hI2 (by decide))⟩ (hG.ext hw.fr))), ?_⟩; conv => whnf
  refine ⟨rS (entryS ⟨a'.1, b'.1, c'.1, d'.1, e'.1, f'.1, g'.1, h'.1, i'.1, j'.1, k'.1, out, t'.1⟩), gimp_of (ans_quiet b28 (fun w' hw => etext_c ⟨a'.1, b'.1, c'.1, d'.1, e'.1, f'.1, g'.1, h'.1, i'.1, j'.1, k'.1, out, t'.1⟩ v_d v_k vo [] w' ⟨slI _ (hw.row (id := 2) rfl) hlk, slI _ (hw.row (id := 3) rfl) hly, slS _ (hw.row (id := 5) rfl) (Nat.le_trans hI2 (by decide))⟩ hRE (hG.ext hw.fr))), ?_⟩; conv => whnf
  have eB : (((!doneR t'.2) || !rightB ⟨a'.1, b'.1, c'.1, d'.1, e'.1, f'.1, g'.1, h'.1, i'.1, j'.1, k'.1, out, t'.1⟩) || !decide (entryS ⟨a'.1, b'.1, c'.1, d'.1, e'.1, f'.1, g'.1, h'.1, i'.1, j'.1, k'.1, out, t'.1⟩ = s)) = badE s := by unfold badE; rw [hraw]
  repeat refine zq ?_
  refine At.cond rfl (fun hq => ?_) (fun hq => At.skip ?_)
  ·have hB' : badE s = true := by rw [← eB]; simpa only [bor, doneR] using hq
   repeat refine zq ?_
   refine zr ?_; conv => whnf
   refine ⟨rfl, ?_⟩; conv => whnf
   refine ⟨rfl, ?_⟩; conv => whnf
   refine ⟨rfl, ?_⟩; conv => whnf
   repeat refine zq ?_
   refine At.ret (At.doneB tab_ok hB _ rfl fun w' hw => ?_)
   have er : readE s = (zeroE, 2) := by unfold readE; rw [if_pos hB']
   rw [er]
   exact ⟨.slice none 0 0, .slice none 0 0, .slice none 0 0, rfl, ⟨nil_holds, nil_holds, nil_holds, by simp [blkOf], by simp [blkOf], by simp [blkOf], by simp [blkOf]⟩, hw.fr⟩
  ·have hB' : badE s = false := by rw [← eB]; simpa only [bor, doneR] using hq
   repeat refine zq ?_
   refine zr ?_; conv => whnf
   repeat refine zq ?_
   refine At.ret (At.doneB tab_ok hB _ rfl fun w' hw => ?_)
   have er : readE s = ((rawE s).1, 0) := by unfold readE; rw [if_neg (by rw [hB']; decide)]
   rw [er, hraw]
   refine ⟨v_d, v_k, vo, rfl, ⟨hw.row (id := 2) rfl, hw.row (id := 3) rfl, hw.row (id := 5) rfl, fun x hx => ?_, hw.apart (i := 2) (j := 3) rfl rfl (by decide), hw.apart (i := 2) (j := 5) rfl rfl (by decide), hw.apart (i := 3) (j := 5) rfl rfl (by decide)⟩, hw.fr⟩
   rcases hx with hx | hx | hx
   ·exact (hw.fresh (id := 2) rfl x hx).elim (fun h => by cases h) _root_.id
   ·exact (hw.fresh (id := 3) rfl x hx).elim (fun h => by cases h) _root_.id
   ·exact (hw.fresh (id := 5) rfl x hx).elim (fun h => by cases h) _root_.id
end Go.Proofs.YtdigebokbhmfaaaGreatDoor
