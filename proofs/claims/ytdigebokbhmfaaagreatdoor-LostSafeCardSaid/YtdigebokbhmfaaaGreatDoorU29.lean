/- Texts that the law leans on. -/
import Derived.Test.YtdigebokbhmfaaaGreatDoorU27
import Derived.Test.YtdigebokbhmfaaaGreatDoorOVcRound
import Derived.Test.YtdigebokbhmfaaaGreatDoorU22
import Derived.Test.YtdigebokbhmfaaaGreatDoorU25
import Derived.Test.YtdigebokbhmfaaaGreatDoorU20
import Derived.Test.YtdigebokbhmfaaaGreatDoorU26
import Derived.Laws.IdiomStrings
set_option linter.unusedVariables false
set_option linter.unusedSimpArgs false
namespace Go.Vc
theorem equalIn_pp {P : Program} {t e : TypeId} {b : Addr} (d : Nat) (hu : P.underlying t = some (.pointer e)) (w : World) : (Op.equalIn (d + 1) t (.pointer none) (.pointer (some b))).run P w = .ok false w := by
 rw [Op.equalIn]
 simp only [Sem.run_bind, run_underlying hu, Result.andThen_ok, Sem.run_pure]
 rfl
theorem rawQ_np {P : Program} {st : St} {keys : Keys} {dst : Option Nat} {t ty e : TypeId} {x y : Operand} {t' : TypeId} {pos : String} {after : Array Edge} {guard : Option (Nat × Bool)} {u v : RV} {b : Addr} (ht : P.underlying t = some (.pointer e)) (hx : opv st keys x = some u) (hy : opv st keys y = some v) (hu : u.den = .pointer none) (hv : v.den = .pointer (some b)) :
  RawQ P st keys { dst := dst, op := .binOp .eql t x y t', type := ty, pos := pos, after := after, guard := guard } (.b false) :=
 ⟨fun ρ hρ w _ => by
  have e1 := hρ x _ hx
  have e2 := hρ y _ hy
  rw [hu] at e1
  rw [hv] at e2
  have eq := equalIn_pp (P := P) (b := b) 9999 ht w
  simp only [execOp, e1, e2, Sem.run_bind, eqGuard_ptr, Result.andThen_ok, binOp, Op.equal, Op.maxDepth, eq, Sem.run_pure]
  rfl⟩
end Go.Vc
namespace Go.Proofs.YtdigebokbhmfaaaGreatDoor.Ap
open Go.Vc Rt Go.Bs
set_option maxHeartbeats 1000000
theorem u27 : Tryz.prog.underlying 27 = some (.pointer 81) := by kernel_rfl
theorem idxH_c (L : List Nat) (v : Value) (w : World) (h : SlOf vT1 [] w v (L.map ptr)) : Ans Tryz.prog 68 [v, .pointer none] (.i (-1)) w := by
 have hln : slen v = L.length := by have := h.len; simpa using this
 have hsm : L.length ≤ 9223372036854775807 := by have := h.small; simp only [List.length_map] at this; omega
 refine calls_e [.x v, .x (.pointer none)] Tryz.func68 rfl rfl (Nat.le_of_ble_eq_true rfl) trivial fun B hB => ?_
 repeat refine zq ?_
 refine zr ?_; conv => whnf
 repeat refine zq ?_
 refine zr ?_; conv => whnf
 refine ⟨h.sl, ?_⟩; conv => whnf
 repeat refine zq ?_
 refine At.block ?_
 refine At.loopH (fun k : Nat => { N := Tryz.f68.ntmps, sl := [(0, some (.x v)), (1, some (.x ((.pointer none)))), (7, some (.i L.length)), (8, some (.i k))], gl := [], hp := [], S := [], ws := w }) (fun k : Nat => k ≤ L.length) (fun k : Nat => L.length - k)
  (fun w' hw => ⟨0, Nat.zero_le _, Le.of rfl rfl ⟨rfl, rfl, congrArg (Value.int .i64) hln, rfl, trivial⟩, hw.same rfl rfl rfl, trivial, trivial⟩) ?_
 intro k hk
 repeat refine zq ?_
 refine zr ?_; conv => whnf
 repeat refine zq ?_
 refine At.cond rfl (fun hc => At.skip ?_) (fun hc => At.exit ?_)
 ·have hltg : k < L.length := by have := of_decide_eq_true hc; omega
  obtain ⟨g, hg⟩ : ∃ x, L[k]? = some x := ⟨_, List.getElem?_eq_getElem hltg⟩
  have hlt : k < L.length := by have := of_decide_eq_true hc; omega
  repeat refine zq ?_
  refine At.block ?_
  repeat refine zq ?_
  refine zr ?_; conv => whnf
  repeat refine zq ?_
  refine zr ?_; conv => whnf
  refine ⟨by omega, ?_⟩; conv => whnf
  refine ⟨by omega, ?_⟩; conv => whnf
  refine ⟨[.x (ptr g)], fun w' hw => h.load (n := 1) hw.fr (by rw [List.getElem?_map, hg]; rfl) rfl, ?_⟩; conv => whnf
  refine ⟨.b false, gimp_of (rawQ_np u27 rfl rfl rfl rfl), ?_⟩; conv => whnf
  repeat refine zq ?_
  refine At.cond (t := false) rfl (fun hq => by cases hq) (fun _ => At.skip ?_)
  repeat refine zq ?_
  refine zr ?_; conv => whnf
  refine ⟨⟨by omega, by omega⟩, ?_⟩; conv => whnf
  refine At.nextH fun w' hw => ⟨k + 1, by omega, by omega, Le.of rfl rfl ⟨rfl, rfl, rfl, rfl, trivial⟩, hw.keep [] rfl rfl rfl, trivial, trivial⟩
 ·have hge : k = L.length := by have := of_decide_eq_false hc; omega
  subst hge
  repeat refine zq ?_
  refine zr ?_; conv => whnf
  repeat refine zq ?_
  refine At.ret (At.doneB tab_ok hB _ rfl fun w' hw => ⟨rfl, hw.fr⟩)
theorem conH_c (L : List Nat) (v : Value) (w : World) (h : SlOf vT1 [] w v (L.map ptr)) : Ans Tryz.prog 39 [v, .pointer none] (.b false) w := by
 refine calls_e [.x v, .x (.pointer none)] Tryz.func39 rfl rfl (Nat.le_of_ble_eq_true rfl) trivial fun B hB => ?_
 repeat refine zq ?_
 refine zr ?_; conv => whnf
 repeat refine zq ?_
 refine zr ?_; conv => whnf
 refine ans_call (r := .i (-1)) b68 rfl (fun w' hw => idxH_c L v w' (h.ext hw.fr)) ?_; conv => whnf
 repeat refine zq ?_
 refine At.ret (At.doneB tab_ok hB _ rfl fun w' hw => ⟨rfl, hw.fr⟩)
structure RgOk (R : List SK) : Prop where
 len : R.length ≤ 4000
 sk : ∀ p ∈ R, okSK p ∧ p.2.length ≤ 900000
theorem nok_good {R : List SK} (hR : RgOk R) {N : List Nd} (h : GN R N) : NOk N := by
 have key : ∀ k, NOk (N.take k) := by
  intro k
  induction k with
  | zero => exact nok_nil
  | succ k ih =>
   rcases Nat.lt_or_ge k N.length with hk | hk
   ·have hg := List.getElem?_eq_getElem hk
    have a := h.at hg
    obtain ⟨j, hj, hp⟩ := idxL_look (validR_iff.1 a.valid)
    have hjl := (List.getElem?_eq_some_iff.1 hp).1
    obtain ⟨q1, q2⟩ := hR.sk _ (List.mem_of_getElem? hp)
    have hn := nok_add (R := R) (mk := N[k].mark) ih q1 q2 ⟨by have := hR.len; omega, by have := hR.len; omega⟩
    have e := h k _ hg
    rw [e] at hn
    rw [take_snoc hg]
    exact hn
   ·rw [List.take_of_length_le (by omega)]
    rw [List.take_of_length_le (by omega)] at ih
    exact ih
 have := key N.length
 rwa [List.take_length] at this
theorem join_call {st : St} {d : Option Nat} {K : St → Prop} {id h rb g rb2 : Nat} {B : List Nat} {N N2 : List Nd} {R : List SK} (hl : Vc.look st.hp id = some (histO h rb B N)) (hRo : RgOk R) (hg : GN R N) (hg2 : GN R N2)
  (hG : ∀ w, Holds st w → Gl w) (H2 : ∀ w, Holds st w → HR (nub B) w g rb2 N2) (hR : ∀ w, Holds st w → RgR B w rb R)
  (hK : ∀ B' M', GN R M' → (∀ m, m ∈ mksN M' ↔ m ∈ mksN N ∨ m ∈ mksN N2) → hpSetK st.hp id (histO h rb B' M') (fun hp => st.withHp hp (fun st' => goPut st' d (.i 0) K))) : UCall Tryz.prog st 41 [ptr h, ptr g] d K :=
 obj_call (id := id) (o := histO h rb B N) b41 hl (fun r o' => r = .i 0 ∧ ∃ B' M', o' = histO h rb B' M' ∧ GN R M' ∧ ∀ m, m ∈ mksN M' ↔ m ∈ mksN N ∨ m ∈ mksN N2)
  (fun w hw => by
   refine (join_c h rb B N (nok_good hRo hg) g rb2 N2 (nok_good hRo hg2) R w (hG w hw) (hw.objs _ (look_mem hl)) (H2 w hw) (hR w hw)).mono ?_
   rintro e w' ⟨L, B', he, hp, hs, ho, hf, hb⟩
   obtain ⟨q1, q2, q3⟩ := join_good hg hg2 hRo.len hp hs
   exact ⟨.i 0, histO h rb B' (addAll R N L).1, by rw [he, q1]; rfl, ⟨rfl, B', _, rfl, q2, q3⟩, ho, hf, hb⟩)
  (fun r o' ⟨hr, B', M', ho, h1, h2⟩ => by
   subst hr; subst ho
   exact ⟨⟨fun b T cells e => (by unfold histO at e; cases e), trivial, trivial⟩, hK B' M' h1 h2⟩)
theorem restore_r (h rb : Nat) (N : List Nd) (R : List SK) (hRo : RgOk R) (hg : GN R N) (L : List (Nat × Nat × List Nd)) (hL : ∀ x ∈ L, GN R x.2.2) (v : Value) (w : World) (hG : Gl w) (H : HR [] w h rb N) (hR : RgR [] w rb R) (HL : ∀ x ∈ L, HR [] w x.1 x.2.1 x.2.2) (hv : SlOf vT1 [] w v ((L.map (·.1)).map ptr)) :
  Calls Tryz.prog 10 #[ptr h, v] w (fun e w' => ∃ i : Nat × List Nat × List Nd, (GN R i.2.2 ∧ ∀ m, m ∈ mksN i.2.2 ↔ m ∈ mksN N ∨ ∃ x ∈ L, m ∈ mksN x.2.2) ∧ e = .returned (.tuple #[ptr i.1, vI 0]) ∧ (histO i.1 rb i.2.1 i.2.2).holds w' ∧ (∀ b ∈ i.2.1, w.heap.size ≤ b) ∧ Ext w w') := by
 have hN := nok_good hRo hg
 have hln : slen v = L.length := by have := hv.len; simpa using this
 have hsm : L.length ≤ 9223372036854775807 := by have := hv.small; simp only [List.length_map] at this; omega
 obtain ⟨cg, cm⟩ := restrict_good hg hRo.len (marksB N)
 have hcm : ∀ m, m ∈ mksN (restrictB R N (marksB N)) ↔ m ∈ mksN N := fun m => by
  rw [cm]
  constructor
  ·rintro ⟨b, _, hb, hq⟩
   rcases hq with rfl | hq
   ·exact hb
   ·exact hg.anc_mem hq hb
  ·intro hm
   exact ⟨m, mks_mem.2 hm, hm, .inl rfl⟩
 refine calls_e [.x (ptr h), .x v] Tryz.func10 rfl rfl (Nat.le_of_ble_eq_true rfl) trivial fun B hB => ?_
 repeat refine zq ?_
 refine zr ?_; conv => whnf
 repeat refine zq ?_
 refine At.regionG tab_ok ?_; conv => whnf
 refine ans_call (r := .b false) b39 rfl (fun w' hw => conH_c (L.map (·.1)) v w' (hv.ext hw.fr)) ?_; conv => whnf
 repeat refine zq ?_
 refine At.cond (t := false) rfl (fun hq => by cases hq) (fun _ => At.skip ?_)
 repeat refine zq ?_
 refine zr ?_; conv => whnf
 refine newAb_call (fun i : Nat × List Nat => .x (ptr i.1)) (fun i => i.2) (fun i => HistQ i.1 rb i.2 (restrictB R N (marksB N))) b40 (fun _ => rfl) (fun w' hw => copy_r h rb N hN R w' (hG.ext hw.fr) (H.ext hw.fr) (hR.fr hw.fr)) ?_
 rintro ⟨h2, B2⟩
 conv => whnf
 repeat refine zq ?_
 refine zr ?_; conv => whnf
 refine ⟨hv.sl, ?_⟩; conv => whnf
 repeat refine zq ?_
 refine At.block ?_
 refine At.loopH (fun p' : Nat × List Nat × List Nd => { N := Tryz.f10.ntmps, sl := [(6, some (.x ((ptr h2)))), (18, some (.x v)), (19, some (.i L.length)), (20, some (.i p'.1))], gl := [], hp := [(0, histO h2 rb p'.2.1 p'.2.2)], S := [], ws := w }) (fun p' : Nat × List Nat × List Nd => p'.1 ≤ L.length ∧ GN R p'.2.2 ∧ ∀ m, m ∈ mksN p'.2.2 ↔ m ∈ mksN N ∨ ∃ x ∈ L.take p'.1, m ∈ mksN x.2.2) (fun p' : Nat × List Nat × List Nd => L.length - p'.1)
  (fun w' hw => ⟨(0, B2, restrictB R N (marksB N)), ⟨Nat.zero_le _, cg, fun m => by rw [hcm]; simp⟩, Le.of rfl rfl ⟨rfl, rfl, congrArg (Value.int .i64) hln, rfl, trivial⟩, hw.keep [0] rfl rfl rfl, trivial, trivial⟩) ?_
 rintro ⟨k, BB, M⟩ ⟨hk, hM, hMm⟩
 simp only at hk hM hMm ⊢
 repeat refine zq ?_
 refine zr ?_; conv => whnf
 repeat refine zq ?_
 refine At.cond rfl (fun hc => At.skip ?_) (fun hc => At.exit ?_)
 ·have hlty : k < L.length := by have := of_decide_eq_true hc; omega
  obtain ⟨y, hy⟩ : ∃ x, L[k]? = some x := ⟨_, List.getElem?_eq_getElem hlty⟩
  have hlt : k < L.length := by have := of_decide_eq_true hc; omega
  have hyL := List.mem_of_getElem? hy
  repeat refine zq ?_
  refine At.block ?_
  repeat refine zq ?_
  refine zr ?_; conv => whnf
  refine ⟨by omega, ?_⟩; conv => whnf
  refine ⟨by omega, ?_⟩; conv => whnf
  refine ⟨[.x (ptr y.1)], fun w' hw => hv.load (n := 1) hw.fr (by rw [List.getElem?_map, List.getElem?_map, hy]; rfl) rfl, ?_⟩; conv => whnf
  repeat refine zq ?_
  refine zr ?_; conv => whnf
  refine join_call (id := 0) (h := h2) (rb := rb) (B := BB) (N := M) (g := y.1) (rb2 := y.2.1) (N2 := y.2.2) (R := R) rfl hRo hM (hL y hyL) (fun w' hw => hG.ext hw.fr) (fun w' hw => (hw.liftH (HL y hyL)).avoid fun b hb => .inl (List.mem_flatMap.2 ⟨_, look_mem (s := 0) rfl, hb⟩)) (fun w' hw => (hw.liftR hR).avoid fun b hb => .inl (List.mem_flatMap.2 ⟨_, look_mem (s := 0) rfl, mem_nub.2 hb⟩)) ?_
  intro B3 M3 hM3 hm3
  have hm4 : ∀ m, m ∈ mksN M3 ↔ m ∈ mksN N ∨ ∃ x ∈ L.take (k + 1), m ∈ mksN x.2.2 := fun m => by
   rw [hm3, hMm, take_snoc hy]
   constructor
   ·rintro ((h | ⟨x, hx, h⟩) | h)
    ·exact .inl h
    ·exact .inr ⟨x, List.mem_append.2 (.inl hx), h⟩
    ·exact .inr ⟨y, List.mem_append.2 (.inr (List.mem_singleton.2 rfl)), h⟩
   ·rintro (h | ⟨x, hx, h⟩)
    ·exact .inl (.inl h)
    ·rcases List.mem_append.1 hx with hx | hx
     ·exact .inl (.inr ⟨x, hx, h⟩)
     ·rw [List.mem_singleton.1 hx] at h; exact .inr h
  conv => whnf
  repeat refine zq ?_
  refine zr ?_; conv => whnf
  repeat refine zq ?_
  refine At.cond (t := false) rfl (fun hq => by cases hq) (fun _ => At.skip ?_)
  repeat refine zq ?_
  refine zr ?_; conv => whnf
  refine ⟨⟨by omega, by omega⟩, ?_⟩; conv => whnf
  refine At.nextH fun w' hw => ⟨(k + 1, B3, M3), ⟨by simp only; omega, hM3, hm4⟩, by simp only; omega, Le.of rfl rfl ⟨rfl, rfl, rfl, rfl, trivial⟩, hw.keep [0] rfl rfl rfl, trivial, trivial⟩
 ·have hge : k = L.length := by have := of_decide_eq_false hc; omega
  subst hge
  rw [List.take_length] at hMm
  repeat refine zq ?_
  refine zr ?_; conv => whnf
  repeat refine zq ?_
  refine At.ret (At.doneB tab_ok hB _ rfl fun w' hw => ⟨(h2, BB, M), ⟨hM, hMm⟩, rfl, hw.objs _ (look_mem (s := 0) rfl), fun b hb => (hw.fresh (id := 0) rfl b (mem_nub.2 hb)).elim (fun h => by cases h) _root_.id, hw.fr⟩)
theorem idxN_c (v : Value) (w : World) (h : SlOf vT1 [] w v [.pointer none]) : Ans Tryz.prog 68 [v, .pointer none] (.i 0) w := by
 have hln : slen v = 1 := by have := h.len; simpa using this
 refine calls_e [.x v, .x (.pointer none)] Tryz.func68 rfl rfl (Nat.le_of_ble_eq_true rfl) trivial fun B hB => ?_
 repeat refine zq ?_
 refine zr ?_; conv => whnf
 repeat refine zq ?_
 refine zr ?_; conv => whnf
 refine ⟨h.sl, ?_⟩; conv => whnf
 repeat refine zq ?_
 refine At.block ?_
 refine At.loop1 ?_
 repeat refine zq ?_
 refine zr ?_; conv => whnf
 repeat refine zq ?_
 refine At.cond rfl (fun hc => At.skip ?_) (fun hc => by have := of_decide_eq_false hc; omega)
 repeat refine zq ?_
 refine At.block ?_
 repeat refine zq ?_
 refine zr ?_; conv => whnf
 repeat refine zq ?_
 refine zr ?_; conv => whnf
 refine ⟨by omega, ?_⟩; conv => whnf
 refine ⟨by omega, ?_⟩; conv => whnf
 refine ⟨[.x (.pointer none)], fun w' hw => h.load (n := 1) (i := 0) (off := 0) hw.fr rfl rfl, ?_⟩; conv => whnf
 repeat refine zq ?_
 refine At.cond (t := true) rfl (fun _ => ?_) (fun hq => by cases hq)
 repeat refine zq ?_
 refine zr ?_; conv => whnf
 repeat refine zq ?_
 refine At.ret (At.doneB tab_ok hB _ rfl fun w' hw => ⟨rfl, hw.fr⟩)
theorem conN_c (v : Value) (w : World) (h : SlOf vT1 [] w v [.pointer none]) : Ans Tryz.prog 39 [v, .pointer none] (.b true) w := by
 refine calls_e [.x v, .x (.pointer none)] Tryz.func39 rfl rfl (Nat.le_of_ble_eq_true rfl) trivial fun B hB => ?_
 repeat refine zq ?_
 refine zr ?_; conv => whnf
 repeat refine zq ?_
 refine zr ?_; conv => whnf
 refine ans_call (r := .i 0) b68 rfl (fun w' hw => idxN_c v w' (h.ext hw.fr)) ?_; conv => whnf
 repeat refine zq ?_
 refine At.ret (At.doneB tab_ok hB _ rfl fun w' hw => ⟨rfl, hw.fr⟩)
theorem restoreN_c (h : Nat) (v : Value) (w : World) (hv : SlOf vT1 [] w v [.pointer none]) : Ans Tryz.prog 10 [ptr h, v] (.tup [.c (.x (.pointer none)), .c (.i 1)]) w := by
 refine calls_e [.x (ptr h), .x v] Tryz.func10 rfl rfl (Nat.le_of_ble_eq_true rfl) trivial fun B hB => ?_
 repeat refine zq ?_
 refine zr ?_; conv => whnf
 repeat refine zq ?_
 refine At.regionG tab_ok ?_; conv => whnf
 refine ans_call (r := .b true) b39 rfl (fun w' hw => conN_c v w' (hv.ext hw.fr)) ?_; conv => whnf
 repeat refine zq ?_
 refine At.cond (t := true) rfl (fun _ => ?_) (fun hq => by cases hq)
 repeat refine zq ?_
 refine zr ?_; conv => whnf
 repeat refine zq ?_
 refine At.ret (At.doneB tab_ok hB _ rfl fun w' hw => ⟨rfl, hw.fr⟩)
end Go.Proofs.YtdigebokbhmfaaaGreatDoor.Ap
namespace Go.Bs
open Lib Rt
theorem dec_digit : ∀ (u : Nat) (c : UInt8), c ∈ decDigits u → 48 ≤ c.toNat ∧ c.toNat ≤ 57 := by
 have hd : ∀ v, v < 10 → (UInt8.ofNat (48 + v)).toNat = 48 + v := fun v hv => UInt8.toNat_ofNat_of_lt' (by show 48 + v < 256; omega)
 intro u
 induction u using Nat.strongRecOn with
 | ind u ih =>
  intro c hc
  rw [decDigits] at hc
  split at hc
  ·rename_i h
   rw [List.mem_singleton.1 hc, hd u h]; omega
  ·rename_i h
   rcases List.mem_append.1 hc with hc | hc
   ·exact ih (u / 10) (by omega) c hc
   ·rw [List.mem_singleton.1 hc, hd (u % 10) (by omega)]; omega
theorem parse_app : ∀ (l : List UInt8) (acc v : Nat) (r : List UInt8), parseUint10 acc l = .ok v → parseUint10 acc (l ++ r) = parseUint10 v r
 | [], acc, v, r, h => by
  simp only [parseUint10, NumEnd.ok.injEq] at h
  subst h; rfl
 | c :: l, acc, v, r, h => by
  rw [parseUint10] at h
  conv => lhs; rw [List.cons_append, parseUint10]
  split at h
  ·rename_i h1
   rw [if_pos h1]
   split at h
   ·cases h
   ·rename_i h2
    rw [if_neg h2]
    split at h
    ·cases h
    ·rename_i h3
     rw [if_neg h3]
     exact parse_app l _ v r h
  ·cases h
theorem parse_dec : ∀ (u : Nat), u < 18446744073709551616 → parseUint10 0 (decDigits u) = .ok u := by
 have hd : ∀ v, v < 10 → (UInt8.ofNat (48 + v)).toNat = 48 + v := fun v hv => UInt8.toNat_ofNat_of_lt' (by show 48 + v < 256; omega)
 have one : ∀ acc v, v < 10 → acc * 10 + v < 18446744073709551616 → parseUint10 acc [UInt8.ofNat (48 + v)] = .ok (acc * 10 + v) := by
  intro acc v hv ha
  unfold parseUint10
  rw [hd v hv, if_pos (by omega), if_neg (by omega), if_neg (by omega)]
  unfold parseUint10
  congr 1; omega
 intro u
 induction u using Nat.strongRecOn with
 | ind u ih =>
  intro hu
  rw [decDigits]
  split
  ·rename_i h
   have := one 0 u h (by omega)
   simpa using this
  ·rename_i h
   rw [parse_app _ _ _ _ (ih (u / 10) (by omega) (by omega)), one (u / 10) (u % 10) (by omega) (by omega)]
   congr 1; omega
theorem dec_ne (u : Nat) : decDigits u ≠ [] := by
 rw [decDigits]
 split
 ·simp
 ·simp
theorem dec_len : ∀ (k u : Nat), u < 10 ^ (k + 1) → (decDigits u).length ≤ k + 1
 | 0, u, h => by
  rw [decDigits, dif_pos (by omega)]; simp
 | k + 1, u, h => by
  rw [decDigits]
  split
  ·simp
  ·have := dec_len k (u / 10) (by rw [Nat.pow_succ] at h; omega)
   simp only [List.length_append, List.length_cons, List.length_nil]; omega
def okN (n : Int) : Prop := -1 ≤ n ∧ n ≤ 1000000
theorem itoa_rt {n : Int} (h : okN n) : atoiAll (itoa n) = .ok n ∧ (itoa n).length ≤ 9 ∧ (∀ c ∈ itoa n, (48 ≤ c.toNat ∧ c.toNat ≤ 57) ∨ c.toNat = 45) := by
 obtain ⟨h1, h2⟩ := h
 unfold itoa
 split
 ·rename_i hn
  have e : n.natAbs = 1 := by omega
  rw [e]
  refine ⟨?_, ?_, ?_⟩
  ·rw [atoiAll_minus, parseMag, if_neg (dec_ne 1), parse_dec 1 (by decide)]
   have : n = -1 := by omega
   rw [this]; rfl
  ·have := dec_len 0 1 (by decide)
   simp only [List.length_cons]; omega
  ·intro c hc
   rcases List.mem_cons.1 hc with rfl | hc
   ·exact .inr rfl
   ·exact .inl (dec_digit 1 c hc)
 ·rename_i hn
  have hm := dec_digit n.toNat
  have hl := dec_len 7 n.toNat (by omega)
  have hp := parse_dec n.toNat (by omega)
  have hne := dec_ne n.toNat
  generalize decDigits n.toNat = l at hm hl hp hne
  refine ⟨?_, by omega, fun c hc => .inl (hm c hc)⟩
  cases l with
  | nil => exact absurd rfl hne
  | cons c r =>
   have := hm c (List.mem_cons_self ..)
   rw [atoiAll_plain c r (by omega) (by omega), parseMag, if_neg hne, hp]
   unfold signless
   simp only
   rw [if_neg (by omega)]
   congr 1; omega
theorem index_at : ∀ (l : List UInt8) (c : UInt8) (r : List UInt8), c ∉ l → indexByte (l ++ c :: r) c = l.length
 | [], c, r, _ => by simp [indexByte]
 | b :: l, c, r, h => by
  have hb : ¬ (b == c) = true := fun e => h (by rw [eq_of_beq e]; exact List.mem_cons_self ..)
  have ih := index_at l c r fun hm => h (List.mem_cons_of_mem _ hm)
  rw [List.cons_append]
  unfold indexByte
  rw [if_neg hb, ih, if_neg (by simp)]
  simp
theorem numberV_at {n least : Int} {c : UInt8} (rest : B) (h : okN n) (hl : least ≤ n) (hc : 58 ≤ c.toNat) : numberV c least (itoa n ++ c :: rest) = some (n, rest) := by
 obtain ⟨h1, h2, h3⟩ := itoa_rt h
 generalize hg : itoa n = l at h1 h2 h3
 have hcl : c ∉ l := fun hm => by have := h3 c hm; omega
 have hh : headOf (l ++ c :: rest) = l ++ c :: rest.take (20 - l.length) := by
  unfold headOf
  rw [List.take_append, List.take_of_length_le (by omega), show 21 - l.length = (20 - l.length) + 1 by omega, List.take_succ_cons]
 unfold numberV
 simp only
 rw [hh, index_at l c _ hcl, if_neg (by omega)]
 have ht : (l ++ c :: rest.take (20 - l.length)).take ((l.length : Int)).toNat = l := by
  rw [Int.toNat_natCast, List.take_left']; rfl
 rw [ht, h1]
 simp only
 rw [hg, if_neg (by rintro (h | h); exact h rfl; omega)]
 have hd : (l ++ c :: rest).drop ((l.length : Int) + 1).toNat = rest := by
  rw [show ((l.length : Int) + 1).toNat = l.length + 1 by omega, List.drop_append, List.drop_of_length_le (by omega), show l.length + 1 - l.length = 1 by omega]
  rfl
 rw [hd]
theorem numberR_at {n least : Int} {c : UInt8} (rest : B) (b : Bool) (h : okN n) (hl : least ≤ n) (hc : 58 ≤ c.toNat) : numberR c least ⟨itoa n ++ c :: rest, b⟩ = (n, ⟨rest, b⟩) := by
 unfold numberR
 rw [numberV_at rest h hl hc]
theorem intR_at {n : Int} (rest : B) (b : Bool) (h : okN n) : intR ⟨intS n ++ rest, b⟩ = (n, ⟨rest, b⟩) := by
 unfold intR intS
 rw [List.append_assoc]
 exact numberR_at rest b h (by have := h.1; omega) (by decide)
theorem numR_at {n : Int} (rest : B) (b : Bool) (h : okN n) (h0 : 0 ≤ n) : numR ⟨numS n ++ rest, b⟩ = (n, ⟨rest, b⟩) := by
 unfold numR numS
 rw [if_neg (by omega)]
 unfold intS
 rw [List.append_assoc]
 exact numberR_at rest b h h0 (by decide)
theorem items_at : ∀ (l : List Int) (out : List Int) (rest : B), (∀ x ∈ l, okN x) → itemsL l.length out ⟨(l.map intS).flatten ++ rest, false⟩ = (out ++ l, ⟨rest, false⟩)
 | [], out, rest, _ => by simp [itemsL]
 | x :: l, out, rest, h => by
  rw [List.length_cons]
  unfold itemsL
  simp only [Bool.false_eq_true, if_false]
  rw [List.map_cons, List.flatten_cons, List.append_assoc, intR_at _ _ (h x (List.mem_cons_self ..))]
  simp only
  rw [items_at l (out ++ [x]) rest fun y hy => h y (List.mem_cons_of_mem _ hy)]
  simp
theorem nums_at {l : List Int} (rest : B) (h : ∀ x ∈ l, okN x) (hl : l.length ≤ 1000000) : numsR ⟨numsS l ++ rest, false⟩ = (l, ⟨rest, false⟩) := by
 unfold numsR numsS
 have e : itoa (l.length : Int) ++ [91] ++ (l.map intS).flatten ++ [93] ++ rest = itoa (l.length : Int) ++ 91 :: ((l.map intS).flatten ++ (93 :: rest)) := by simp
 rw [e, numberR_at _ _ ⟨by omega, by omega⟩ (by omega) (by decide)]
 simp only [Int.toNat_natCast]
 rw [items_at l [] _ h]
 simp [closeR, hasPrefix, trimPrefix]
theorem text_at (rest : B) : textR ⟨textS [] ++ rest, false⟩ = ([], ⟨rest, false⟩) := by
 unfold textR textS
 have e : itoa (([] : B).length : Int) ++ [58] ++ [] ++ [44] ++ rest = itoa 0 ++ 58 :: (44 :: rest) := by simp
 rw [e, numberR_at _ _ ⟨by decide, by decide⟩ (by decide) (by decide)]
 simp [closeR, hasPrefix, trimPrefix]
 intro hq
 omega
def noteE (a q d : Int) (ks : List Int) : En := ⟨a, q, d, ks, 1, 0, 0, 0, 0, -1, [], [], []⟩
structure NoteOk (a q d : Int) (ks : List Int) : Prop where
 a : 0 ≤ a ∧ a < 200
 q : 0 ≤ q ∧ q < 1000
 d : 0 ≤ d ∧ d ≤ 1000
 k : ∀ x ∈ ks, 0 ≤ x ∧ x ≤ 1000
 l : ks.length ≤ 40
 asc : ks.Pairwise (· < ·)
theorem asc_of {l : List Int} (h : l.Pairwise (· < ·)) : ascB l = true := by
 refine ascB_true fun j hj => ?_
 unfold ascAt
 rw [List.getElem?_eq_getElem (l := l) (i := j - 1) (by omega), List.getElem?_eq_getElem hj]
 simp only
 rcases Nat.eq_zero_or_pos j with h0 | h0
 ·subst h0; rfl
 ·have := List.pairwise_iff_getElem.1 h (j - 1) j (by omega) hj (by omega)
  rw [decide_eq_true this, Bool.or_true]
theorem mark_ok {x : Int} (h : 0 ≤ x ∧ x ≤ 1000) : isMark x = true := by
 unfold isMark
 simp only [Bool.and_eq_true, decide_eq_true_eq]
 omega
theorem note_right {a q d : Int} {ks : List Int} (h : NoteOk a q d ks) : rightB (noteE a q d ks) = true := by
 have hA : badA (noteE a q d ks) = false := by
  have h1 := h.a; have h2 := h.q; have h3 := h.d
  have hp : plainB (noteE a q d ks) = true := by
   refine plainB_true fun j hj => ?_
   unfold okC empties noteE
   rcases j with _ | _ | _ | _ | _ | _ | _ | _ | j <;> first | rfl | omega
  have hk : isKeyB a = true := by unfold isKeyB; simp only [Bool.and_eq_true, decide_eq_true_eq]; omega
  have hday : isDayB d = true := by unfold isDayB; simp only [Bool.and_eq_true, decide_eq_true_eq]; omega
  unfold badA
  rw [hp]
  show ((((((!isKeyB a) || decide (q < 0)) || decide (1048576 ≤ q)) || !isDayB d) || decide ((1 : Int) < 0)) || decide (21 ≤ (1 : Int)) || !true) = false
  rw [hk, hday, decide_eq_false (show ¬ q < 0 by omega), decide_eq_false (show ¬ 1048576 ≤ q by omega)]
  rfl
 have hK : badK (noteE a q d ks) = false := by
  have hl := h.l
  unfold badK
  show ((decide (40 < ks.length) || !ascB ks) || (decide (0 < ks.length) && ((!isMark (ks.getD 0 0)) || !isMark (ks.getD (ks.length - 1) 0)))) = false
  rw [asc_of h.asc, decide_eq_false (by omega)]
  rcases Nat.eq_zero_or_pos ks.length with h0 | h0
  ·rw [decide_eq_false (by omega)]; rfl
  ·have hm : ∀ i, i < ks.length → isMark (ks.getD i 0) = true := fun i hi => by
    rw [List.getD_eq_getElem?_getD, List.getElem?_eq_getElem hi, Option.getD_some]
    exact mark_ok (h.k _ (List.getElem_mem hi))
   rw [hm 0 h0, hm (ks.length - 1) (by omega)]
   simp
 have hS : badS (noteE a q d ks) = false := rfl
 have hM : badM (noteE a q d ks) = false := rfl
 have hN : numbersB (noteE a q d ks) = true := rfl
 unfold rightB
 rw [hA, hK, hS, hM, hN]
 rfl
theorem note_raw {a q d : Int} {ks : List Int} (h : NoteOk a q d ks) : rawE (entryS (noteE a q d ks)) = (noteE a q d ks, ⟨[], false⟩) := by
 have h1 := h.a; have h2 := h.q; have h3 := h.d; have h4 := h.l
 have hk : ∀ x ∈ ks, okN x := fun x hx => by have := h.k x hx; exact ⟨by omega, by omega⟩
 have e : entryS (noteE a q d ks) = numS a ++ (numS q ++ (numS d ++ (numsS ks ++ (numS 1 ++ (numS 0 ++ (numS 0 ++ (intS 0 ++ (intS 0 ++ (intS (-1) ++ (numsS [] ++ (numS 0 ++ (textS [] ++ [])))))))))))) := by
  unfold entryS
  rw [if_pos (note_right h)]
  unfold headS midS spansS noteE
  simp only [List.map_nil, List.flatten_nil, List.length_nil, List.append_nil, List.append_assoc, List.nil_append]
  rfl
 have z : okN 0 := ⟨by decide, by decide⟩
 rw [e]
 unfold rawE
 rw [numR_at _ _ ⟨by omega, by omega⟩ h1.1]
 simp only
 rw [numR_at _ _ ⟨by omega, by omega⟩ h2.1]
 simp only
 rw [numR_at _ _ ⟨by omega, by omega⟩ h3.1]
 simp only
 rw [nums_at _ hk (by omega)]
 simp only
 rw [numR_at (n := 1) _ _ ⟨by decide, by decide⟩ (by decide)]
 simp only
 rw [numR_at (n := 0) _ _ z (by decide)]
 simp only
 rw [numR_at (n := 0) _ _ z (by decide)]
 simp only
 rw [intR_at (n := 0) _ _ z]
 simp only
 rw [intR_at (n := 0) _ _ z]
 simp only
 rw [intR_at (n := -1) _ _ ⟨by decide, by decide⟩]
 simp only
 rw [nums_at (l := []) _ (fun x hx => by cases hx) (by decide)]
 simp only
 rw [numR_at (n := 0) _ _ z (by decide)]
 simp only [Int.toNat_zero, readL]
 rw [text_at []]
 rfl
theorem note_read {a q d : Int} {ks : List Int} (h : NoteOk a q d ks) : readE (entryS (noteE a q d ks)) = (noteE a q d ks, 0) := by
 have hb : badE (entryS (noteE a q d ks)) = false := by
  unfold badE
  rw [note_raw h]
  simp only
  rw [note_right h]
  simp [doneR]
 unfold readE
 rw [hb, note_raw h]
 rfl
end Go.Bs
namespace Go.Proofs.YtdigebokbhmfaaaGreatDoor.Ap
open Go.Vc Rt Go.Bs
theorem sign_new {R : List SK} {k : Int} {t : List UInt8} (hk : isKeyB k = true) (hn : (k, t) ∉ R) : signL R k t = R ++ [(k, t)] ∧ sgT R k t = (k, t, (R.length : Int)) ∧ validR (R ++ [(k, t)]) k t R.length = true := by
 have h0 : alook (idxL R) (k, t) = none := alook_none fun p hp e => hn (by rw [← e]; exact idxL_mem hp)
 refine ⟨?_, ?_, ?_⟩
 ·unfold signL; rw [if_pos ⟨hk, h0⟩]
 ·unfold sgT signM; rw [if_pos hk, if_pos hk, h0]; rfl
 ·rw [validR_iff, idxL_snoc, alook_append, h0, alook_cons, if_pos rfl]; rfl
theorem note_R {a q d : Int} {ks : List Int} (h : NoteOk a q d ks) : EnR (noteE a q d ks) := by
 have h1 := h.a; have h2 := h.q; have h3 := h.d; have h4 := h.l
 have c : ∀ {z : Int}, z = 0 ∨ z = 1 ∨ z = -1 → iR z := fun {z} hz => ⟨by omega, by omega⟩
 exact ⟨⟨by show _ ≤ a; omega, by show a ≤ _; omega⟩, ⟨by show _ ≤ q; omega, by show q ≤ _; omega⟩, ⟨by show _ ≤ d; omega, by show d ≤ _; omega⟩, c (.inr (.inl rfl)), c (.inl rfl), c (.inl rfl), c (.inl rfl), c (.inl rfl), c (.inr (.inr rfl)),
  fun x hx => by have := h.k x hx; exact ⟨by omega, by omega⟩, fun x hx => (by cases hx), fun x hx => (by cases hx), by show ks.length ≤ _; omega, by show 0 ≤ _; omega, by show 0 ≤ _; omega, by show 0 ≤ _; omega⟩
theorem numS_le {n : Int} (h : okN n) : (numS n).length ≤ 22 := numS_len (by have := h.1; omega) (by have := h.2; omega)
theorem note_len {a q d : Int} {ks : List Int} (h : NoteOk a q d ks) : (entryS (noteE a q d ks)).length ≤ 2000 := by
 have h1 := h.a; have h2 := h.q; have h3 := h.d; have h4 := h.l
 have n1 := numS_le (n := a) ⟨by omega, by omega⟩
 have n2 := numS_le (n := q) ⟨by omega, by omega⟩
 have n3 := numS_le (n := d) ⟨by omega, by omega⟩
 have n4 := numsS_len (l := ks) (fun x hx => by have := h.k x hx; exact ⟨by omega, by omega⟩) (by omega)
 have n5 := numS_le (n := 1) ⟨by decide, by decide⟩
 have n6 := numS_le (n := 0) ⟨by decide, by decide⟩
 have n7 := intS_len (n := 0) (by decide) (by decide)
 have n8 := intS_len (n := -1) (by decide) (by decide)
 have n9 := numsS_len (l := []) (fun x hx => by cases hx) (by decide)
 have n10 := textS_len (s := []) (by decide)
 unfold entryS
 split
 ·unfold headS midS spansS noteE
  simp only [List.length_append, List.map_nil, List.flatten_nil, List.length_nil, Int.natCast_zero] at n9 n10 ⊢
  omega
 ·simp
theorem note_inj {a q d a' q' d' : Int} {ks ks' : List Int} (h : NoteOk a q d ks) (h' : NoteOk a' q' d' ks') (e : entryS (noteE a q d ks) = entryS (noteE a' q' d' ks')) : noteE a q d ks = noteE a' q' d' ks' := by
 have h1 := note_read h
 have h2 := note_read h'
 rw [e, h2] at h1
 exact (congrArg Prod.fst h1).symm
theorem named_iff (j : Nat) : ∀ (N : List Nd) (b : List Nat), testB (N.foldl (fun b n => unionB b n.past) b) j = true ↔ testB b j = true ∨ ∃ n ∈ N, testB n.past j = true
 | [], b => by simp
 | n :: r, b => by
  rw [List.foldl_cons, named_iff j r, testB_union, Bool.or_eq_true]
  constructor
  ·rintro ((h | h) | ⟨x, hx, h⟩)
   ·exact .inl h
   ·exact .inr ⟨n, List.mem_cons_self .., h⟩
   ·exact .inr ⟨x, List.mem_cons_of_mem _ hx, h⟩
  ·rintro (h | ⟨x, hx, h⟩)
   ·exact .inl (.inl h)
   ·rcases List.mem_cons.1 hx with rfl | hx
    ·exact .inl (.inr h)
    ·exact .inr ⟨x, hx, h⟩
theorem head_at {N : List Nd} {i : Nat} {n : Nd} (hi : N[i]? = some n) (h : testB (namedB N) i = false) : n.mark ∈ headsB N := by
 unfold headsB
 rw [sortI_mem]
 unfold headL
 exact List.mem_map.2 ⟨(n, i), List.mem_filter.2 ⟨List.mem_zipIdx_iff_getElem?.2 hi, by rw [h]; rfl⟩, rfl⟩
theorem heads_cover {R : List SK} {N : List Nd} (h : GN R N) : ∀ (k i : Nat) (n : Nd), N.length - i ≤ k → N[i]? = some n → ∃ d ∈ headsB N, n.mark = d ∨ AncR R n.mark d
 | 0, i, n, hk, hi => by
  have := (List.getElem?_eq_some_iff.1 hi).1
  omega
 | k + 1, i, n, hk, hi => by
  have hl := (List.getElem?_eq_some_iff.1 hi).1
  cases hb : testB (namedB N) i with
  | false => exact ⟨n.mark, head_at hi hb, .inl rfl⟩
  | true =>
   unfold namedB at hb
   rw [named_iff, testB_nil] at hb
   rcases hb with hb | ⟨x, hx, hb⟩
   ·cases hb
   ·obtain ⟨j, hj⟩ := List.getElem?_of_mem hx
    obtain ⟨y, hy, hya⟩ := (h.past_iff j x hj i).1 hb
    rw [hi] at hy; cases hy
    have hlt := h.anc_lt hj hi hya
    obtain ⟨d, hd, hq⟩ := heads_cover h k j x (by omega) hj
    refine ⟨d, hd, .inr ?_⟩
    rcases hq with rfl | hq
    ·exact hya
    ·exact hya.trans hq
theorem heads_in {N : List Nd} {m : Int} (h : m ∈ headsB N) : m ∈ mksN N := by
 obtain ⟨n, hn, e⟩ := headsB_mem h
 exact List.mem_map.2 ⟨n, hn, e⟩
theorem heads_asc {R : List SK} {N : List Nd} (h : GN R N) : (headsB N).Pairwise (· < ·) := by
 have hnd : (headL (namedB N) N).Nodup := by
  unfold headL
  have e : N.zipIdx.map (fun p => p.1.mark) = mksN N := by
   have : (fun p : Nd × Nat => p.1.mark) = Nd.mark ∘ Prod.fst := rfl
   rw [this, ← List.map_map, List.zipIdx_map_fst]; rfl
  have hs : List.Sublist ((N.zipIdx.filter fun p => !testB (namedB N) p.2).map fun p => p.1.mark) (N.zipIdx.map fun p => p.1.mark) := (List.filter_sublist).map _
  rw [e] at hs
  exact hs.nodup h.nodup
 have h1 := sortI_sorted (headL (namedB N) N)
 have h2 : (sortI (headL (namedB N) N)).Nodup := (sortI_perm _).nodup_iff.2 hnd
 unfold headsB
 exact (h1.and h2).imp fun ⟨p, q⟩ => by omega
abbrev auR (R : List SK) (m : Int) : Int := (entR R m).author
def Prev (R : List SK) (m : Int) : Prop := ((entR R m).seq = 0 ∧ ∀ x, AncR R x m → auR R x ≠ auR R m) ∨ ∃ p, AncR R p m ∧ auR R p = auR R m ∧ (entR R m).seq = (entR R p).seq + 1 ∧ ∀ x, AncR R x m → auR R x = auR R m → x = p ∨ AncR R x p
structure Tidy (R : List SK) (N : List Nd) : Prop where
 chain : ∀ m m', m ∈ mksN N → m' ∈ mksN N → auR R m = auR R m' → m = m' ∨ AncR R m m' ∨ AncR R m' m
 prev : ∀ m, m ∈ mksN N → Prev R m
section
variable {R : List SK} {N : List Nd} (h : GN R N) (ht : Tidy R N)
include h ht
theorem own_chain (a : Int) : (ownOf N a).Pairwise (AncR R) := by
 refine ((h.own_anc a).and (h.own_nodup a)).imp_of_mem fun {x y} hx hy hq => ?_
 obtain ⟨hx1, hx2⟩ := own_mem.1 hx
 obtain ⟨hy1, hy2⟩ := own_mem.1 hy
 rw [h.entB hx1] at hx2
 rw [h.entB hy1] at hy2
 rcases ht.chain x y hx1 hy1 (hx2.trans hy2.symm) with e | e | e
 ·exact absurd e hq.2
 ·exact e
 ·exact absurd e hq.1
theorem own_seq (a : Int) : ∀ (i : Nat) (m : Int), (ownOf N a)[i]? = some m → (entR R m).seq = (i : Int) := by
 have hc := own_chain h ht a
 have hlt : ∀ {i j : Nat} {x y : Int}, (ownOf N a)[i]? = some x → (ownOf N a)[j]? = some y → AncR R x y → i < j := by
  intro i j x y hi hj hxy
  obtain ⟨li, ei⟩ := List.getElem?_eq_some_iff.1 hi
  obtain ⟨lj, ej⟩ := List.getElem?_eq_some_iff.1 hj
  have hxm := (own_mem.1 (List.mem_of_getElem? hi)).1
  rcases Nat.lt_trichotomy i j with hij | hij | hij
  ·exact hij
  ·subst hij
   rw [hi] at hj; cases hj
   exact absurd hxy (h.anc_irr hxm)
  ·have := List.pairwise_iff_getElem.1 hc j i lj li hij
   rw [ei, ej] at this
   exact absurd (hxy.trans this) (h.anc_irr hxm)
 have hof : ∀ {x m : Int}, m ∈ mksN N → auR R m = a → AncR R x m → auR R x = auR R m → ∃ j : Nat, (ownOf N a)[j]? = some x := by
  intro x m hm ha hx hax
  have hxN := h.anc_mem hx hm
  exact List.getElem?_of_mem (own_mem.2 ⟨hxN, by rw [h.entB hxN]; exact hax.trans ha⟩)
 intro i
 induction i using Nat.strongRecOn with
 | ind i ih =>
  intro m hi
  obtain ⟨hmN, hma⟩ := own_mem.1 (List.mem_of_getElem? hi)
  rw [h.entB hmN] at hma
  obtain ⟨li, ei⟩ := List.getElem?_eq_some_iff.1 hi
  rcases ht.prev m hmN with ⟨h1, h2⟩ | ⟨p, h1, h2, h3, h4⟩
  ·rcases Nat.eq_zero_or_pos i with h0 | h0
   ·rw [h1, h0]; rfl
   ·exfalso
    have hp := List.getElem?_eq_getElem (l := ownOf N a) (i := i - 1) (by omega)
    have hanc := List.pairwise_iff_getElem.1 hc (i - 1) i (by omega) li (by omega)
    rw [ei] at hanc
    obtain ⟨hpN, hpa⟩ := own_mem.1 (List.mem_of_getElem? hp)
    rw [h.entB hpN] at hpa
    exact h2 _ hanc (hpa.trans hma.symm)
  ·obtain ⟨j, hj⟩ := hof hmN hma h1 h2
   have hji := hlt hj hi h1
   have hp := List.getElem?_eq_getElem (l := ownOf N a) (i := i - 1) (by omega)
   have hanc := List.pairwise_iff_getElem.1 hc (i - 1) i (by omega) li (by omega)
   rw [ei] at hanc
   obtain ⟨hpN, hpa⟩ := own_mem.1 (List.mem_of_getElem? hp)
   rw [h.entB hpN] at hpa
   have hij : j = i - 1 := by
    rcases h4 _ hanc (hpa.trans hma.symm) with e | e
    ·rw [e] at hp
     have := hlt (i := i - 1) (j := i) (x := p) (y := m) hp hi h1
     rcases Nat.lt_trichotomy j (i - 1) with q | q | q
     ·have := List.pairwise_iff_getElem.1 hc j (i - 1) (by omega) (by omega) q
      obtain ⟨_, e1⟩ := List.getElem?_eq_some_iff.1 hj
      obtain ⟨_, e2⟩ := List.getElem?_eq_some_iff.1 hp
      rw [e1, e2] at this
      exact absurd this (h.anc_irr (own_mem.1 (List.mem_of_getElem? hj)).1)
     ·exact q
     ·omega
    ·have := hlt hp hj e
     omega
   subst hij
   rw [h3, ih (i - 1) (by omega) p hj]
   omega
theorem tidy_straight (a : Int) : straightB N a = true := by
 rw [straight_iff]
 intro i m hi
 have hmN := (own_mem.1 (List.mem_of_getElem? hi)).1
 refine ⟨by rw [h.entB hmN]; exact own_seq h ht a i m hi, fun m' h0 hi' => ?_⟩
 rw [h.before_iff]
 obtain ⟨li, ei⟩ := List.getElem?_eq_some_iff.1 hi
 obtain ⟨li', ei'⟩ := List.getElem?_eq_some_iff.1 hi'
 have := List.pairwise_iff_getElem.1 (own_chain h ht a) (i - 1) i li' li (by omega)
 rw [ei, ei'] at this
 exact ⟨hmN, this⟩
theorem tidy_nofork : NoFork N := by
 intro a ha b hb he
 have ha := mks_mem.1 ha
 have hb := mks_mem.1 hb
 rw [h.entB ha, h.entB hb] at he
 unfold forkB
 rcases ht.chain a b ha hb he with e | e | e
 ·rw [decide_eq_true e]; rfl
 ·rw [(h.before_iff a b).2 ⟨hb, e⟩]; simp
 ·rw [(h.before_iff b a).2 ⟨ha, e⟩]; simp
end
theorem entR_le {R R' : List SK} {N : List Nd} (h : GN R N) (hl : RLe R R') {m : Int} (hm : m ∈ mksN N) : entR R' m = entR R m := by
 rw [← h.entB hm, ← (h.le hl).entB hm]
theorem anc_le {R R' : List SK} {N : List Nd} (h : GN R N) (hl : RLe R R') {a b : Int} (hb : b ∈ mksN N) : AncR R' a b ↔ AncR R a b := by
 have h' := h.le hl
 constructor
 ·intro hq
  induction hq with
  | one hk => exact .one (by rw [← entR_le h hl hb]; exact hk)
  | @more y z _ hk ih =>
   rw [entR_le h hl hb] at hk
   have hy : y ∈ mksN N := h.anc_mem (.one hk) hb
   exact .more (ih hy) hk
 ·intro hq
  induction hq with
  | one hk => exact .one (by rw [entR_le h hl hb]; exact hk)
  | @more y z _ hk ih =>
   have hy : y ∈ mksN N := h.anc_mem (.one hk) hb
   exact .more (ih hy) (by rw [entR_le h hl hb]; exact hk)
theorem prev_le {R R' : List SK} {N : List Nd} (h : GN R N) (hl : RLe R R') {m : Int} (hm : m ∈ mksN N) (hp : Prev R m) : Prev R' m := by
 have hau : ∀ {x}, AncR R x m → auR R' x = auR R x := fun hx => by unfold auR; rw [entR_le h hl (h.anc_mem hx hm)]
 have hem : auR R' m = auR R m := by unfold auR; rw [entR_le h hl hm]
 rcases hp with ⟨h1, h2⟩ | ⟨p, h1, h2, h3, h4⟩
 ·refine .inl ⟨by rw [entR_le h hl hm]; exact h1, fun x hx => ?_⟩
  have hx' := (anc_le h hl hm).1 hx
  rw [hau hx', hem]
  exact h2 x hx'
 ·have hpN := h.anc_mem h1 hm
  refine .inr ⟨p, (anc_le h hl hm).2 h1, by rw [hau h1, hem]; exact h2, by rw [entR_le h hl hm, entR_le h hl hpN]; exact h3, fun x hx hxa => ?_⟩
  have hx' := (anc_le h hl hm).1 hx
  rw [hau hx', hem] at hxa
  exact (h4 x hx' hxa).imp _root_.id (anc_le h hl hpN).2
theorem set_get {α : Type} {L : List α} {j : Nat} {y' : α} {i : Nat} {z : α} (h : (L.set j y')[i]? = some z) : (i = j ∧ z = y') ∨ (i ≠ j ∧ L[i]? = some z) := by
 by_cases e : i = j
 ·subst e
  have hl : i < L.length := by have := (List.getElem?_eq_some_iff.1 h).1; simpa using this
  rw [List.getElem?_set_self hl] at h
  exact .inl ⟨rfl, (Option.some.inj h).symm⟩
 ·rw [List.getElem?_set_ne (fun q => e q.symm)] at h
  exact .inr ⟨e, h⟩
structure Vil where
 R : List SK
 H : List (List Nd)
 back : Int
 met : List Int
def inU (H : List (List Nd)) (m : Int) : Prop := ∃ N ∈ H, m ∈ mksN N
structure VI (n d : Nat) (S : Vil) : Prop where
 hn : S.H.length = n
 rl : S.R.length ≤ d
 ring : ∀ p ∈ S.R, (okSK p ∧ p.2.length ≤ 2000) ∧ (readE p.2).1.day < (d : Int)
 good : ∀ N ∈ S.H, GN S.R N
 note : ∀ m, inU S.H m → (entR S.R m).kind = 1
 chain : ∀ m m', inU S.H m → inU S.H m' → auR S.R m = auR S.R m' → m = m' ∨ AncR S.R m m' ∨ AncR S.R m' m
 prev : ∀ m, inU S.H m → Prev S.R m
 own : ∀ (j : Nat) N, S.H[j]? = some N → (j : Int) ≠ S.back → ∀ m, inU S.H m → auR S.R m = j → m ∈ mksN N
 lost : ∀ (j : Nat) N, S.H[j]? = some N → (j : Int) = S.back → ∀ m, inU S.H m → auR S.R m = j → m ∈ mksN N ∨ ∃ (q : Nat) (M : List Nd), S.H[q]? = some M ∧ (q : Int) ∉ S.met ∧ q ≠ j ∧ m ∈ mksN M
 back : S.back = -1 ∨ (0 ≤ S.back ∧ S.back < n)
 ml : S.met.length ≤ 2 * d
theorem VI.tidy {n d : Nat} {S : Vil} (h : VI n d S) {N : List Nd} (hN : N ∈ S.H) : Tidy S.R N :=
 ⟨fun m m' hm hm' => h.chain m m' ⟨N, hN, hm⟩ ⟨N, hN, hm'⟩, fun m hm => h.prev m ⟨N, hN, hm⟩⟩
theorem VI.kind {n d : Nat} {S : Vil} (h : VI n d S) {N : List Nd} (hN : N ∈ S.H) : ∀ x ∈ marksB N, (entB N x).kind = 1 := fun x hx => by
 have := mks_mem.1 hx
 rw [(h.good N hN).entB this]
 exact h.note x ⟨N, hN, this⟩
theorem VI.up {n d : Nat} {S : Vil} (h : VI n d S) : VI n (d + 1) S := ⟨h.hn, by have := h.rl; omega, fun p hp => ⟨(h.ring p hp).1, by have := (h.ring p hp).2; push_cast; omega⟩, h.good, h.note, h.chain, h.prev, h.own, h.lost, h.back, by have := h.ml; omega⟩
theorem VI.unback {n d : Nat} {S : Vil} (h : VI n d S) {a : Nat} (hb : S.back = (a : Int)) (hm : ∀ q : Nat, q < n → q ≠ a → (q : Int) ∈ S.met) : VI n d { S with back := -1 } := by
 refine ⟨h.hn, h.rl, h.ring, h.good, h.note, h.chain, h.prev, fun j N hj _ m hmU hma => ?_, fun j N hj e => ?_, .inl rfl, h.ml⟩
 ·by_cases e : (j : Int) = S.back
  ·rcases h.lost j N hj e m hmU hma with q | ⟨q, M, hq, hqm, hqj, _⟩
   ·exact q
   ·exfalso
    have hql := (List.getElem?_eq_some_iff.1 hq).1
    rw [h.hn] at hql
    exact hqm (hm q hql (by omega))
  ·exact h.own j N hj e m hmU hma
 ·exfalso
  simp only at e
  omega
theorem VI.setback {n d : Nat} {S : Vil} (h : VI n d S) {a : Nat} {N X : List Nd} (hN : S.H[a]? = some N) (hb : S.back = -1 ∨ S.back = (a : Int)) (hX : GN S.R X) (hs : ∀ m ∈ mksN X, m ∈ mksN N) : VI n d { S with H := S.H.set a X, back := (a : Int), met := [] } := by
 have hal := (List.getElem?_eq_some_iff.1 hN).1
 have hget : ∀ (j : Nat) M, (S.H.set a X)[j]? = some M → (j = a ∧ M = X) ∨ (j ≠ a ∧ S.H[j]? = some M) := fun j M hj => set_get hj
 have hU : ∀ m, inU (S.H.set a X) m → inU S.H m := fun m ⟨M, hM, hm⟩ => by
  obtain ⟨j, hj⟩ := List.getElem?_of_mem hM
  rcases hget j M hj with ⟨rfl, rfl⟩ | ⟨_, hj⟩
  ·exact ⟨N, List.mem_of_getElem? hN, hs m hm⟩
  ·exact ⟨M, List.mem_of_getElem? hj, hm⟩
 refine ⟨by simp [h.hn], h.rl, h.ring, fun M hM => ?_, fun m hm => h.note m (hU m hm), fun m m' hm hm' => h.chain m m' (hU m hm) (hU m' hm'), fun m hm => h.prev m (hU m hm), fun j M hj hjb m hmU hma => ?_, fun j M hj hjb m hmU hma => ?_, .inr ⟨by simp only; omega, by simp only; have := h.hn; omega⟩, by simp⟩
 ·obtain ⟨j, hj⟩ := List.getElem?_of_mem hM
  rcases hget j M hj with ⟨_, rfl⟩ | ⟨_, hj⟩
  ·exact hX
  ·exact h.good M (List.mem_of_getElem? hj)
 ·simp only at hjb
  rcases hget j M hj with ⟨rfl, _⟩ | ⟨_, hj⟩
  ·exact absurd rfl hjb
  ·exact h.own j M hj (by rcases hb with e | e <;> omega) m (hU m hmU) hma
 ·simp only at hjb
  have hja : j = a := by omega
  subst hja
  obtain ⟨M', hM', hm⟩ := hmU
  obtain ⟨q, hq⟩ := List.getElem?_of_mem hM'
  rcases hget q M' hq with ⟨rfl, rfl⟩ | ⟨hqa, hq'⟩
  ·rw [hq] at hj; cases hj; exact .inl hm
  ·exact .inr ⟨q, M', hq, by simp, hqa, hm⟩
theorem VI.meet {n d : Nat} {S : Vil} (h : VI n d S) {a b : Nat} {Na Nb : List Nd} (ha : S.H[a]? = some Na) (hb : S.H[b]? = some Nb) {H' : List (List Nd)} (hl : H'.length = n) (hgood : ∀ N ∈ H', GN S.R N)
  (hoth : ∀ j, j ≠ a → j ≠ b → H'[j]? = S.H[j]?) (hab : ∀ j, j = a ∨ j = b → ∃ M, H'[j]? = some M ∧ ∀ m, m ∈ mksN M ↔ m ∈ mksN Na ∨ m ∈ mksN Nb) :
  VI n (d + 1) { S with H := H', met := (S.met ++ if S.back = (a : Int) then [(b : Int)] else []) ++ if S.back = (b : Int) then [(a : Int)] else [] } := by
 have hU : ∀ m, inU H' m → inU S.H m := fun m ⟨M, hM, hm⟩ => by
  obtain ⟨j, hj⟩ := List.getElem?_of_mem hM
  by_cases e : j = a ∨ j = b
  ·obtain ⟨M', hM', hmm⟩ := hab j e
   rw [hj] at hM'; cases hM'
   rcases (hmm m).1 hm with q | q
   ·exact ⟨Na, List.mem_of_getElem? ha, q⟩
   ·exact ⟨Nb, List.mem_of_getElem? hb, q⟩
  ·rw [hoth j (fun q => e (.inl q)) (fun q => e (.inr q))] at hj
   exact ⟨M, List.mem_of_getElem? hj, hm⟩
 have hgrow : ∀ (j : Nat) M N, H'[j]? = some M → S.H[j]? = some N → ∀ m ∈ mksN N, m ∈ mksN M := fun j M N hj hj' m hm => by
  by_cases e : j = a ∨ j = b
  ·obtain ⟨M', hM', hmm⟩ := hab j e
   rw [hj] at hM'; cases hM'
   rcases e with rfl | rfl
   ·rw [ha] at hj'; cases hj'; exact (hmm m).2 (.inl hm)
   ·rw [hb] at hj'; cases hj'; exact (hmm m).2 (.inr hm)
  ·rw [hoth j (fun q => e (.inl q)) (fun q => e (.inr q)), hj'] at hj
   cases hj; exact hm
 have hold : ∀ (j : Nat) M, H'[j]? = some M → ∃ N, S.H[j]? = some N := fun j M hj => by
  have hj1 := (List.getElem?_eq_some_iff.1 hj).1
  exact ⟨_, List.getElem?_eq_getElem (by rw [h.hn]; omega)⟩
 refine ⟨hl, h.up.rl, h.up.ring, hgood, fun m hm => h.note m (hU m hm), fun m m' hm hm' => h.chain m m' (hU m hm) (hU m' hm'), fun m hm => h.prev m (hU m hm), fun j M hj hjb m hmU hma => ?_, fun j M hj hjb m hmU hma => ?_, h.back, by
  have := h.ml
  simp only [List.length_append]
  split <;> split <;> simp <;> omega⟩
 ·obtain ⟨N, hN⟩ := hold j M hj
  exact hgrow j M N hj hN m (h.own j N hN hjb m (hU m hmU) hma)
 ·simp only at hjb
  obtain ⟨N, hN⟩ := hold j M hj
  rcases h.lost j N hN hjb m (hU m hmU) hma with q | ⟨q, Q, hq, hqm, hqj, hmQ⟩
  ·exact .inl (hgrow j M N hj hN m q)
  ·by_cases ea : j = a
   ·subst ea
    by_cases eb : q = b
    ·subst eb
     rw [hb] at hq; cases hq
     obtain ⟨M', hM', hmm⟩ := hab j (.inl rfl)
     rw [hj] at hM'; cases hM'
     exact .inl ((hmm m).2 (.inr hmQ))
    ·refine .inr ⟨q, Q, by rw [hoth q hqj eb]; exact hq, ?_, hqj, hmQ⟩
     simp only
     intro hmem
     rcases List.mem_append.1 hmem with hmem | hmem
     ·rcases List.mem_append.1 hmem with hmem | hmem
      ·exact hqm hmem
      ·split at hmem
       ·have := List.mem_singleton.1 hmem; omega
       ·cases hmem
     ·split at hmem
      ·have := List.mem_singleton.1 hmem; omega
      ·cases hmem
   ·by_cases eb : j = b
    ·subst eb
     by_cases ec : q = a
     ·subst ec
      rw [ha] at hq; cases hq
      obtain ⟨M', hM', hmm⟩ := hab j (.inr rfl)
      rw [hj] at hM'; cases hM'
      exact .inl ((hmm m).2 (.inl hmQ))
     ·refine .inr ⟨q, Q, by rw [hoth q ec hqj]; exact hq, ?_, hqj, hmQ⟩
      simp only
      intro hmem
      rcases List.mem_append.1 hmem with hmem | hmem
      ·rcases List.mem_append.1 hmem with hmem | hmem
       ·exact hqm hmem
       ·split at hmem
        ·omega
        ·cases hmem
      ·split at hmem
       ·have := List.mem_singleton.1 hmem; omega
       ·cases hmem
    ·have hqn := (List.getElem?_eq_some_iff.1 hq).1
     obtain ⟨Q', hQ'⟩ : ∃ Q', H'[q]? = some Q' := ⟨_, List.getElem?_eq_getElem (by rw [hl, ← h.hn]; exact hqn)⟩
     refine .inr ⟨q, Q', hQ', ?_, hqj, hgrow q Q' Q hQ' hq m hmQ⟩
     simp only
     intro hmem
     rcases List.mem_append.1 hmem with hmem | hmem
     ·rcases List.mem_append.1 hmem with hmem | hmem
      ·exact hqm hmem
      ·split at hmem
       ·omega
       ·cases hmem
     ·split at hmem
      ·omega
      ·cases hmem
end Go.Proofs.YtdigebokbhmfaaaGreatDoor.Ap
namespace Go.Vc
theorem LO.ab_agree {B : List Nat} {Q : World → Prop} {w w' : World} (h : (LO.ab B Q).holds w) (ha : ∀ b ∈ B, w'.heap[b]? = w.heap[b]?) : (LO.ab B Q).holds w' :=
 ⟨fun b hb => by
  have h1 := h.1 b hb
  have h2 := ha b hb
  rw [Array.getElem?_eq_getElem h1] at h2
  exact (Array.getElem?_eq_some_iff.1 h2).1, fun w'' ha' => h.2 w'' fun b hb => (ha' b hb).trans (ha b hb)⟩
theorem Holds.objAt {st st' : St} {w : World} (h : Holds st w) (pre post : List LO) {o n : LO} (h1 : st.hp.map Prod.snd = pre ++ o :: post) (h2 : st'.hp.map Prod.snd = pre ++ n :: post) (ho : o.holds w → n.holds w) (hb : ∀ b ∈ n.blks, b ∈ o.blks) (h3 : st'.S = st.S) (h4 : st'.ws = st.ws) : Holds st' w := by
 have hz : ∀ l : List LO, (l.map fun q => ((0 : Nat), q)).map Prod.snd = l := fun l => by rw [List.map_map]; exact List.map_id _
 have hk : Holds { st with hp := (o :: (pre ++ post)).map fun q => (0, q) } w := h.renP (by
  show List.Perm (((o :: (pre ++ post)).map fun q => ((0 : Nat), q)).map Prod.snd) _
  rw [hz, h1]; exact List.perm_middle.symm) rfl rfl
 have hk2 : Holds { st with hp := (n :: (pre ++ post)).map fun q => (0, q) } w := hk.recast [0] (old := [o]) (new := [n]) (rest := pre ++ post) (by
  show (keepIds [0] ((o :: (pre ++ post)).map fun q => ((0 : Nat), q))).map Prod.snd = _
  rw [keepIds_all, hz]; rfl) (by show ((n :: (pre ++ post)).map fun q => ((0 : Nat), q)).map Prod.snd = _; rw [hz]; rfl) (fun h1 _ => ⟨fun q hq => by rw [List.mem_singleton.1 hq]; exact ho (h1 o (List.mem_singleton.2 rfl)), by simpa using LO.blks_nodup n, fun b hb' => by simpa using hb b (by simpa using hb')⟩) rfl rfl
 exact hk2.renP (by
  show List.Perm (st'.hp.map Prod.snd) (((n :: (pre ++ post)).map fun q => ((0 : Nat), q)).map Prod.snd)
  rw [hz, h2]; exact List.perm_middle) h3 h4
end Go.Vc
namespace Go.Proofs.YtdigebokbhmfaaaGreatDoor.Ap
open Go.Vc Rt Go.Bs
set_option maxHeartbeats 1000000
theorem one_sl {v : Value} {E size : Nat} {L : List (List CV)} {w : World} (h : (LO.row v E size L).holds w) : v.oneCell' = true := by
 obtain ⟨a, n, c, rfl⟩ := ownsAt_slice h.1; rfl
theorem histO_agree {w w' : World} {h rb : Nat} {B : List Nat} {N : List Nd} (H : (histO h rb B N).holds w) (ha : ∀ b ∈ B, w'.heap[b]? = w.heap[b]?) : (histO h rb B N).holds w' := LO.ab_agree H ha
def histF (h rb : Nat) (v : Value) (m : Nat) (Bs : List Nat) (M : List NdV) : LO := .ab (partsH h v m Bs) (fun w => HistAt w h rb v m Bs M)
theorem join_self (h rb : Nat) (B : List Nat) (N : List Nd) (hN : NOk N) (R : List SK) (hg : GN R N) (w : World) (hG : Gl w) (H : (histO h rb B N).holds w) (hR : RgR B w rb R) :
  Calls Tryz.prog 41 #[ptr h, ptr h] w (fun e w' => ∃ B', e = .returned (vI 0) ∧ (histO h rb B' N).holds w' ∧ Fr (nub B) w w' ∧ ∀ b ∈ nub B', b ∈ nub B ∨ w.heap.size ≤ b) := by
 obtain ⟨h8, v, m, Bs, M, hat, rfl, hsub⟩ := histO_at H
 have hone : ∀ p ∈ M, oneNV p := fun p hp => by
  have := hat.rel.2 w (fun _ _ => rfl) p hp
  exact ⟨one_sl this.rk, one_sl this.ry, one_sl this.rs, one_sl this.rp⟩
 obtain ⟨VM, hVM⟩ : ∃ VM : List NV1, VM.map (·.1) = M := ⟨M.pmap Subtype.mk hone, by rw [List.map_pmap]; simp⟩
 have hMl : M.length ≤ 4000 := by have := hN.len; unfold ndsM at this; simpa using this
 have hVl : VM.length ≤ 4000 := by rw [← hVM] at hMl; simpa using hMl
 have hP8 : ∀ b ∈ nub (partsH h v m Bs), 8 ≤ b := fun b hb => h8 b (hsub b (mem_nub.1 hb))
 have hF : (histF h rb v m Bs M).holds w := ⟨hat.lt, fun w' ha => hat.agree ha⟩
 have hen := enter_objs (N := Tryz.f41.ntmps) (l := [.x (ptr h), .x (ptr h)]) (hp := [(0, histF h rb v m Bs M)]) (w := w) (fun o ho => by rw [List.mem_singleton.1 ho]; exact hF) (by simp [histF, LO.blks, nub_nodup])
 have hS : ([(0, histF h rb v m Bs M)].flatMap fun o => o.2.blks) = nub (partsH h v m Bs) := by simp [histF, LO.blks]
 rw [hS] at hen
 refine calls_atB [.x (ptr h), .x (ptr h)] [(0, histF h rb v m Bs M)] (nub (partsH h v m Bs)) Tryz.func41 rfl rfl (Nat.le_of_ble_eq_true rfl) (WF.objs hen trivial trivial) hen fun B0 hB => ?_
 have hAt : ∀ {st : St} {w' : World}, Holds st w' → Vc.look st.hp 0 = some (histF h rb v m Bs M) → HistAt w' h rb v m Bs M := fun hw hl => (hw.objs _ (look_mem hl)).2 _ fun _ _ => rfl
 repeat refine zq ?_
 refine zr ?_; conv => whnf
 repeat refine zq ?_
 refine zr ?_; conv => whnf
 repeat refine zq ?_
 refine At.join (fun u : Unit => { N := Tryz.f41.ntmps, sl := [(0, some (.x ((ptr h)))), (1, some (.s (.c (.e (hs h) 3 0 0))))], gl := [], hp := [(0, histF h rb v m Bs M)], S := (nub (partsH h v m Bs)), ws := w }) (fun u : Unit => True) ?_ ?_
 ·refine At.cond (t := false) rfl (fun hq => by cases hq) (fun _ => At.skip ?_)
  refine At.meet fun w' hw => ⟨(), trivial, Le.of rfl rfl ⟨rfl, rfl, trivial⟩, hw.keep [0] rfl rfl rfl, ⟨⟨_, _, _, rfl⟩, trivial⟩, trivial⟩
 rintro ⟨⟩ _
 repeat refine zq ?_
 refine zr ?_; conv => whnf
 refine ⟨[.x v], fun w' hw => (box_sl (S := []) (hAt hw rfl).box (fun hm => by cases hm)).load (n := 1) (i := 0) (off := 1) (ext_refl w') rfl rfl, ?_⟩; conv => whnf
 refine ansR_call b69 (rd1 (nopV1 _)) (fun w' hw => cloneN_c VM [] v w' (by
  have := (hAt hw rfl).row
  rw [hVM]
  exact SlOf.of_row (enc := encM) this (fun b hb hm => by cases hm) (by omega)) (by omega)) ?_
 intro vl; conv => whnf
 repeat refine zq ?_
 refine zr ?_; conv => whnf
 refine row_call (id := 1) b42 rfl (fun r v' L' => r = .tup [] ∧ v' = vl ∧ ∃ ys : List NV1, L' = ys.map encV1 ∧ ys.Perm VM ∧ ys.Pairwise (fun a b => ¬ ltN b.1.1 a.1.1)) (fun w' hw => ?_) ?_
 ·refine (sortN_c VM vl w' (hw.row (id := 1) rfl) (by omega)).mono ?_
  rintro e w'' ⟨ys, he, h1, h2, h3, h4⟩
  exact ⟨.tup [], vl, _, he, ⟨rfl, rfl, ys, rfl, h1, h2⟩, h3, h4, fun b hb => .inl hb⟩
 rintro r v3 L' ⟨rfl, rfl, ys, rfl, hperm, hsort⟩ hsl'
 refine ⟨fun v hv => (by cases hv), nopV1 _, ?_⟩; conv => whnf
 have hyl : ys.length = VM.length := hperm.length_eq
 have hyN : ∀ y ∈ ys, y.1.1 ∈ ndsM M := fun y hy => by
  have := hperm.mem_iff.1 hy
  unfold ndsM
  rw [← hVM, List.map_map]
  exact List.mem_map.2 ⟨y, this, rfl⟩
 repeat refine zq ?_
 refine zr ?_; conv => whnf
 refine ⟨rfl, ?_⟩; conv => whnf
 repeat refine zq ?_
 refine At.block ?_
 refine At.loopH (fun p' : Nat × List Nat => { N := Tryz.f41.ntmps, sl := [(0, some (.x ((ptr h)))), (18, some (.s (.c (.o 1 v3)))), (19, some (.i ys.length)), (20, some (.i p'.1))], gl := [], hp := [(1, .row v3 86 18 (ys.map encV1)), (0, histO h rb p'.2 (ndsM M))], S := (nub (partsH h v m Bs)), ws := w }) (fun p' : Nat × List Nat => p'.1 ≤ ys.length) (fun p' : Nat × List Nat => ys.length - p'.1)
  (fun w' hw => ⟨(0, partsH h v m Bs), Nat.zero_le _, Le.of rfl rfl ⟨rfl, rfl, congrArg (Value.int .i64) (by simp), rfl, trivial⟩, hw.objAt [_] [] rfl rfl (fun ho => histO_of (ho.2 _ fun _ _ => rfl) fun b hb => h8 b (hsub b hb)) (fun b hb => hb) rfl rfl, ⟨⟨_, _, _, rfl⟩, trivial⟩, ⟨(nopV1 _).okH, trivial⟩⟩) ?_
 rintro ⟨k, BB⟩ hk
 simp only at hk ⊢
 repeat refine zq ?_
 refine zr ?_; conv => whnf
 repeat refine zq ?_
 refine At.cond rfl (fun hc => At.skip ?_) (fun hc => At.exit ?_)
 ·have hlty : k < ys.length := by have := of_decide_eq_true hc; omega
  obtain ⟨y, hy⟩ : ∃ x, ys[k]? = some x := ⟨_, List.getElem?_eq_getElem hlty⟩
  have hlt : k < ys.length := by have := of_decide_eq_true hc; omega
  obtain ⟨j, hj⟩ := List.getElem?_of_mem (hyN y (List.mem_of_getElem? hy))
  obtain ⟨_, _, _, _, _, hsk, htl, hmr⟩ := hN.nd j _ hj
  have ha := hg.at hj
  have hadd := add_again (N := ndsM M) ha.valid ha.ok (by rw [← ha.ent]; exact ha.author) (List.mem_map.2 ⟨_, List.mem_of_getElem? hj, rfl⟩)
  have hone := y.2
  repeat refine zq ?_
  refine At.block ?_
  repeat refine zq ?_
  refine zr ?_; conv => whnf
  refine ⟨rfl, ?_⟩; conv => whnf
  refine ⟨by omega, ?_⟩; conv => whnf
  refine ⟨by (try simp only [List.length_map]); omega, ?_⟩; conv => whnf
  refine ⟨encV1 y, ⟨rfl, rfl, by omega, by rw [Int.toNat_natCast, List.getElem?_map, hy]; rfl⟩, ?_⟩; conv => whnf
  intro b7; conv => whnf
  refine ⟨hone.1, ?_⟩; conv => whnf
  refine ⟨hone.2.1, ?_⟩; conv => whnf
  refine ⟨hone.2.2.1, ?_⟩; conv => whnf
  refine ⟨hone.2.2.2, ?_⟩; conv => whnf
  repeat refine zq ?_
  refine zr ?_; conv => whnf
  refine add_call (id := 0) (h := h) (rb := rb) (B := BB) (N := ndsM M) (R := R) (k := y.1.1.key) (mk := y.1.1.mark) (t := y.1.1.text) rfl hN hsk htl (fun w' hw => hG.fr hw.fr hP8) (fun w' hw => (hw.liftR (hR.avoid fun b hb => .inl (hsub b (mem_nub.1 hb)))).avoid fun b hb => .inl (List.mem_flatMap.2 ⟨_, look_mem (s := 0) rfl, mem_nub.2 hb⟩)) ?_
  intro B3
  rw [hadd]
  conv => whnf
  repeat refine zq ?_
  refine zr ?_; conv => whnf
  repeat refine zq ?_
  refine At.cond (t := false) rfl (fun hq => by cases hq) (fun _ => At.skip ?_)
  repeat refine zq ?_
  refine zr ?_; conv => whnf
  refine ⟨⟨by omega, by omega⟩, ?_⟩; conv => whnf
  refine At.nextH fun w' hw => ⟨(k + 1, B3), by simp only; omega, by simp only; omega, Le.of rfl rfl ⟨rfl, rfl, rfl, rfl, trivial⟩, hw.keep [1, 0] rfl rfl rfl, ⟨⟨_, _, _, rfl⟩, trivial⟩, ⟨(nopV1 _).okH, trivial⟩⟩
 ·have hge : k = ys.length := by have := of_decide_eq_false hc; omega
  subst hge
  repeat refine zq ?_
  refine zr ?_; conv => whnf
  repeat refine zq ?_
  refine At.ret (At.doneB tab_ok hB _ rfl fun w' hw => ?_)
  exact ⟨BB, rfl, hw.objs _ (look_mem (s := 0) rfl), hw.fr.mono fun b hb => .inl (mem_nub.2 (hsub b (mem_nub.1 hb))), fun b hb => (hw.fresh (id := 0) rfl b hb).imp (fun hb => mem_nub.2 (hsub b (mem_nub.1 hb))) _root_.id⟩
abbrev Hi := Nat × List Nat × List Nd
def famQ (rb : Nat) (L : List Hi) (w : World) : Prop := (∀ (i k : Nat) (y z : Hi), i ≠ k → L[i]? = some y → L[k]? = some z → ∀ b ∈ y.2.1, b ∉ z.2.1) ∧ ∀ y ∈ L, (histO y.1 rb y.2.1 y.2.2).holds w
def famO (rb : Nat) (L : List Hi) : LO := .ab (L.flatMap fun y => y.2.1) (famQ rb L)
theorem famO_at {rb : Nat} {L : List Hi} {w : World} (h : (famO rb L).holds w) : famQ rb L w := h.2 w fun _ _ => rfl
theorem famO_of {rb : Nat} {L : List Hi} {w : World} (h : famQ rb L w) : (famO rb L).holds w :=
 ⟨fun b hb => by
  obtain ⟨y, hy, hb⟩ := List.mem_flatMap.1 hb
  exact (h.2 y hy).1 b hb, fun w' ha => ⟨h.1, fun y hy => histO_agree (h.2 y hy) fun b hb => ha b (List.mem_flatMap.2 ⟨y, hy, hb⟩)⟩⟩
theorem fam_set {rb : Nat} {L : List Hi} {j : Nat} {y : Hi} {w w' : World} {B' : List Nat} {N' : List Nd} (h : (famO rb L).holds w) (hj : L[j]? = some y) (ho : (histO y.1 rb B' N').holds w') (hf : Fr (nub y.2.1) w w') (hn : ∀ b ∈ nub B', b ∈ nub y.2.1 ∨ w.heap.size ≤ b) : (famO rb (L.set j (y.1, B', N'))).holds w' := by
 obtain ⟨h1, h2⟩ := famO_at h
 have hlt : ∀ (i : Nat) (z : Hi), L[i]? = some z → ∀ b ∈ z.2.1, b < w.heap.size := fun i z hz b hb => (h2 z (List.mem_of_getElem? hz)).1 b hb
 refine famO_of ⟨fun i k p q hne hp hq b hb hb' => ?_, fun p hp => ?_⟩
 ·rcases set_get hp with ⟨e1, e2⟩ | ⟨hi, hp0⟩
  ·rcases set_get hq with ⟨e3, _⟩ | ⟨hk, hq0⟩
   ·exact hne (e1.trans e3.symm)
   ·rw [e2] at hb
    rcases hn b (mem_nub.2 hb) with hb2 | hb2
    ·exact h1 j k y q (fun e => hk e.symm) hj hq0 b (mem_nub.1 hb2) hb'
    ·have := hlt k q hq0 b hb'; omega
  ·rcases set_get hq with ⟨e3, e4⟩ | ⟨hk, hq0⟩
   ·rw [e4] at hb'
    rcases hn b (mem_nub.2 hb') with hb2 | hb2
    ·exact h1 i j p y hi hp0 hj b hb (mem_nub.1 hb2)
    ·have := hlt i p hp0 b hb; omega
   ·exact h1 i k p q hne hp0 hq0 b hb hb'
 ·obtain ⟨i, hi⟩ := List.getElem?_of_mem hp
  rcases set_get hi with ⟨rfl, rfl⟩ | ⟨hne, hi⟩
  ·exact ho
  ·exact LO.frame hf (h2 p (List.mem_of_getElem? hi)) fun b hb hm => h1 i j p y hne hi hj b (mem_nub.1 hb) (mem_nub.1 hm)
theorem fam_hr {rb : Nat} {L : List Hi} {j : Nat} {y : Hi} {w : World} (h : (famO rb L).holds w) (hj : L[j]? = some y) (hN : NOk y.2.2) : HR [] w y.1 rb y.2.2 :=
 histO_hr ((famO_at h).2 y (List.mem_of_getElem? hj)) hN (fun b hb => by cases hb)
theorem fam_call {st : St} {d : Option Nat} {K : St → Prop} {id rb : Nat} {L : List Hi} {j : Nat} {y : Hi} {f : FuncId} {args : List Value} (hl : Vc.look st.hp id = some (famO rb L)) (hj : L[j]? = some y) (hb : Body Tryz.prog f) (Good : RV → List Nat → List Nd → Prop)
  (h : ∀ w, Holds st w → Calls Tryz.prog f args.toArray w (fun e w' => ∃ r B' N', e = .returned (RV.den r) ∧ Good r B' N' ∧ (histO y.1 rb B' N').holds w' ∧ Fr (nub y.2.1) w w' ∧ ∀ b ∈ nub B', b ∈ nub y.2.1 ∨ w.heap.size ≤ b))
  (hk : ∀ r B' N', Good r B' N' → noPr r = true ∧ hpSetK st.hp id (famO rb (L.set j (y.1, B', N'))) (fun hp => st.withHp hp (fun st' => goPut st' d r K))) : UCall Tryz.prog st f args d K :=
 obj_call (id := id) (o := famO rb L) hb hl (fun r o' => ∃ B' N', Good r B' N' ∧ o' = famO rb (L.set j (y.1, B', N')))
  (fun w hw => (h w hw).mono fun e w' ⟨r, B', N', he, hg, ho, hf, hn⟩ => by
   have hjl := List.mem_of_getElem? hj
   refine ⟨r, famO rb (L.set j (y.1, B', N')), he, ⟨B', N', hg, rfl⟩, fam_set (hw.objs _ (look_mem hl)) hj ho hf hn, hf.mono fun b hb => .inl (mem_nub.2 (List.mem_flatMap.2 ⟨y, hjl, mem_nub.1 hb⟩)), fun b hb => ?_⟩
   obtain ⟨z, hz, hbz⟩ := List.mem_flatMap.1 (mem_nub.1 hb)
   obtain ⟨i, hi⟩ := List.getElem?_of_mem hz
   rcases set_get hi with ⟨rfl, rfl⟩ | ⟨_, hi⟩
   ·exact (hn b (mem_nub.2 hbz)).imp (fun hb => mem_nub.2 (List.mem_flatMap.2 ⟨y, hjl, mem_nub.1 hb⟩)) _root_.id
   ·exact .inl (mem_nub.2 (List.mem_flatMap.2 ⟨z, List.mem_of_getElem? hi, hbz⟩)))
  (fun r o' ⟨B', N', hg, ho⟩ => by
   subst ho
   obtain ⟨h1, h2⟩ := hk r B' N' hg
   exact ⟨⟨fun b T cells e => (by unfold famO at e; cases e), trivial, noPr_ok h1⟩, h2⟩)
theorem fam_join {st : St} {d : Option Nat} {K : St → Prop} {id rb : Nat} {L : List Hi} {i j : Nat} {y z : Hi} {R : List SK} (hl : Vc.look st.hp id = some (famO rb L)) (hi : L[i]? = some y) (hj : L[j]? = some z) (hRo : RgOk R) (hy : GN R y.2.2) (hz : GN R z.2.2)
  (hG : ∀ w, Holds st w → Gl w) (hR : ∀ w, Holds st w → RgR (L.flatMap fun y => y.2.1) w rb R)
  (hK : ∀ B' M', GN R M' → (∀ m, m ∈ mksN M' ↔ m ∈ mksN y.2.2 ∨ m ∈ mksN z.2.2) → hpSetK st.hp id (famO rb (L.set i (y.1, B', M'))) (fun hp => st.withHp hp (fun st' => goPut st' d (.i 0) K))) : UCall Tryz.prog st 41 [ptr y.1, ptr z.1] d K := by
 have hyL := List.mem_of_getElem? hi
 refine fam_call hl hi b41 (fun r B' M' => r = .i 0 ∧ GN R M' ∧ ∀ m, m ∈ mksN M' ↔ m ∈ mksN y.2.2 ∨ m ∈ mksN z.2.2) (fun w hw => ?_) (fun r B' M' ⟨hr, h1, h2⟩ => by subst hr; exact ⟨rfl, hK B' M' h1 h2⟩)
 obtain ⟨q1, q2⟩ := famO_at (hw.objs _ (look_mem hl))
 have hRy : RgR y.2.1 w rb R := (hR w hw).avoid fun b hb => .inl (List.mem_flatMap.2 ⟨y, hyL, hb⟩)
 by_cases e : i = j
 ·subst e
  rw [hi] at hj; cases hj
  refine (join_self y.1 rb y.2.1 y.2.2 (nok_good hRo hy) R hy w (hG w hw) (q2 y hyL) hRy).mono ?_
  rintro e w' ⟨B', he, ho, hf, hn⟩
  exact ⟨.i 0, B', y.2.2, he, ⟨rfl, hy, fun m => ⟨.inl, fun h => h.elim _root_.id _root_.id⟩⟩, ho, hf, hn⟩
 ·have hzr : HR (nub y.2.1) w z.1 rb z.2.2 := histO_hr (q2 z (List.mem_of_getElem? hj)) (nok_good hRo hz) (fun b hb => q1 i j y z e hi hj b (mem_nub.1 hb))
  refine (join_c y.1 rb y.2.1 y.2.2 (nok_good hRo hy) z.1 rb z.2.2 (nok_good hRo hz) R w (hG w hw) (q2 y hyL) hzr hRy).mono ?_
  rintro e' w' ⟨Ls, B', he, hp, hs, ho, hf, hn⟩
  obtain ⟨a1, a2, a3⟩ := join_good hy hz hRo.len hp hs
  exact ⟨.i 0, B', (addAll R y.2.2 Ls).1, by rw [he, a1]; rfl, ⟨rfl, a2, a3⟩, ho, hf, hn⟩
end Go.Proofs.YtdigebokbhmfaaaGreatDoor.Ap
namespace Go.Proofs.YtdigebokbhmfaaaGreatDoor
open Go.Vc Rt Go.Bs
theorem alook_append {K V : Type} [DecidableEq K] {L X : List (K × V)} {k : K} {v : V} (h : alook L k = some v) : alook (L ++ X) k = some v := by
 unfold alook at h ⊢
 rw [List.find?_append]
 cases hf : List.find? (fun p => decide (p.1 = k)) L with
 | none => rw [hf] at h; cases h
 | some q => rw [hf] at h; exact h
theorem alook_mem {K V : Type} [DecidableEq K] {L : List (K × V)} {p : K × V} (h : p ∈ L) : ∃ v, alook L p.1 = some v := by
 refine Option.isSome_iff_exists.1 ?_
 unfold alook
 rw [Option.isSome_map, List.find?_isSome]
 exact ⟨p, h, by simp⟩
end Go.Proofs.YtdigebokbhmfaaaGreatDoor
namespace Go.Bs
open Rt
end Go.Bs
namespace Go.Proofs.YtdigebokbhmfaaaGreatDoor
open Go.Vc Rt Go.Bs
set_option maxHeartbeats 2000000
theorem rawQ_bin {P : Program} {st : St} {keys : Keys} {dst : Option Nat} {op : BinOp} {t ty : TypeId} {x y : Operand} {t' : TypeId} {pos : String} {after : Array Edge} {guard : Option (Nat × Bool)} {u v r : RV} {a b : Int} (hx : opv st keys x = some u) (hy : opv st keys y = some v) (hu : u.den = vI a) (hv : v.den = vI b)
  (h : ∀ w : World, (binOp op t (vI a) (vI b)).run P w = .ok r.den w) : RawQ P st keys { dst := dst, op := .binOp op t x y t', type := ty, pos := pos, after := after, guard := guard } r :=
 ⟨fun ρ hρ w _ => by
  have e1 := hρ x _ hx
  have e2 := hρ y _ hy
  rw [hu] at e1
  rw [hv] at e2
  simp only [execOp, e1, e2, Sem.run_bind, eqGuard_int, Result.andThen_ok, h w, Sem.run_pure]⟩
end Go.Proofs.YtdigebokbhmfaaaGreatDoor
namespace Go.Proofs.YtdigebokbhmfaaaGreatDoor
open Go.Vc Rt Go.Bs
theorem nodup_len {α : Type} [DecidableEq α] : ∀ {l l' : List α}, l.Nodup → (∀ x ∈ l, x ∈ l') → l.length ≤ l'.length
 | [], _, _, _ => by simp
 | x :: r, l', hn, hs => by
  have hx := hs x (by simp)
  have hn' := List.nodup_cons.1 hn
  have ih := nodup_len (l' := l'.erase x) hn'.2 fun y hy => (List.mem_erase_of_ne (fun e => hn'.1 (by rw [← e]; exact hy))).2 (hs y (List.mem_cons_of_mem _ hy))
  rw [List.length_erase_of_mem hx] at ih
  have : 0 < l'.length := List.length_pos_of_mem hx
  simp only [List.length_cons]; omega
structure Post where
 key : Int
 e : En
 raw : List UInt8
 odd : Int
instance : Inhabited Post := ⟨⟨0, zeroE, [], 0⟩⟩
end Go.Proofs.YtdigebokbhmfaaaGreatDoor
namespace Go.Proofs.YtdigebokbhmfaaaGreatDoor
open Go.Vc Rt Go.Bs
theorem nilI {S : List Nat} {w : World} : SlOf intT S w (.slice none 0 0) [] := SlOf.of_row (enc := fun n => [.i n]) (E := 3) (xs := []) nil_holds (fun b hb => by simp [blkOf] at hb) (by simp)
theorem nilSp {S : List Nat} {w : World} : SlOf spT S w (.slice none 0 0) [] := SlOf.of_row (enc := encS) (E := 43) (xs := []) nil_holds (fun b hb => by simp [blkOf] at hb) (by simp)
theorem ring_new (w : World) (hG : Gl w) : Calls Tryz.prog 18 #[] w (fun e w' => ∃ i : Nat × List Nat, e = .returned (ptr i.1) ∧ (ringO i.1 i.2 []).holds w' ∧ (∀ b ∈ i.2, w.heap.size ≤ b) ∧ Ext w w') :=
 (sealNew_c w).mono fun e w' ⟨b, m, he, hat, h1, h2, hx⟩ => by
  have hb : ∀ x ∈ partsR b (.slice none 0 0) m, w.heap.size ≤ x := by
   intro x hx
   simp [partsR, blkOf] at hx
   rcases hx with rfl | rfl
   ·exact h1
   ·exact h2
  exact ⟨(b, partsR b (.slice none 0 0) m), he, ringO_of hat fun x hx => Nat.le_trans hG.size (hb x hx), hb, hx⟩
end Go.Proofs.YtdigebokbhmfaaaGreatDoor
namespace Go.Proofs.YtdigebokbhmfaaaGreatDoor
open Go.Vc Rt Go.Bs
set_option maxHeartbeats 1000000
end Go.Proofs.YtdigebokbhmfaaaGreatDoor
namespace Go.Proofs.YtdigebokbhmfaaaGreatDoor.Ap
open Go.Vc Rt Go.Bs
set_option maxHeartbeats 1000000
end Go.Proofs.YtdigebokbhmfaaaGreatDoor.Ap
namespace Go.Proofs.YtdigebokbhmfaaaGreatDoor.Ap
open Go.Vc Rt Go.Bs
set_option maxHeartbeats 1000000
theorem um306 : Tryz.prog.underlying 306 = some (.map 3 309) := by kernel_rfl
@[reducible] def encStt (k v : Value) : List CV := [.i 0, .x k, .x (.slice none 0 0), .x (.slice none 0 0), .x v]
@[reducible] def vStt (k v : Value) : Value := .agg #[.int .i64 0, k, .slice none 0 0, .slice none 0 0, v]
@[reducible] def encRun (p : Value × Value × Value × Int × Int × Nat) : List CV := [.i 0, .x p.1, .x (.slice none 0 0), .x (.slice none 0 0), .x p.2.1, .x p.2.2.1, .i p.2.2.2.1, .i p.2.2.2.2.1, .x (ptr p.2.2.2.2.2)]
def runT : Ty (Value × Value × Value × Int × Int × Nat) := flat 9 encRun (fun _ => rfl)
abbrev RunP := Value × Value × Value × Int × Int × Nat
theorem indexCirc_nil (f : Value) (w : World) : Ans Tryz.prog 387 [.slice none 0 0, f] (.i (-1)) w := by
 refine calls_e [.x (.slice none 0 0), .x f] Tryz.func387 rfl rfl (Nat.le_of_ble_eq_true rfl) trivial fun B hB => ?_
 repeat refine zq ?_
 refine zr ?_; conv => whnf
 repeat refine zq ?_
 refine zr ?_; conv => whnf
 refine ⟨nilSl, ?_⟩; conv => whnf
 repeat refine zq ?_
 refine At.block ?_
 refine At.loopH (fun u : Nat => { N := Tryz.f387.ntmps, sl := [(7, some (.i 0)), (8, some (.i 0))], gl := [], hp := [], S := [], ws := w }) (fun u : Nat => True) (fun u : Nat => 0)
  (fun w' hw => ⟨0, trivial, Le.of rfl rfl ⟨rfl, rfl, trivial⟩, hw.same rfl rfl rfl, trivial, trivial⟩) ?_
 intro u _
 repeat refine zq ?_
 refine zr ?_; conv => whnf
 repeat refine zq ?_
 refine At.cond rfl (fun hq => ?_) (fun _ => At.exit ?_)
 ·exact absurd (of_decide_eq_true hq) (by decide)
 repeat refine zq ?_
 refine zr ?_; conv => whnf
 repeat refine zq ?_
 refine At.ret (At.doneB tab_ok hB _ rfl fun w' hw => ⟨rfl, hw.fr⟩)
theorem find_nil (br : Nat) (p : RunP) (f : Value) (w : World) (hr : SlOf runT [] w (hs br) [p]) : Ans Tryz.prog 312 [ptr br, f] (.i (-1)) w := by
 refine calls_e [.s (.c (.e (hs br) 9 0 0)), .x f] Tryz.func312 rfl rfl (Nat.le_of_ble_eq_true rfl) ⟨⟨_, _, _, rfl⟩, trivial⟩ fun B hB => ?_
 repeat refine zq ?_
 refine zr ?_; conv => whnf
 repeat refine zq ?_
 refine zr ?_; conv => whnf
 refine ⟨[.x (.slice none 0 0)], fun w' hw => hr.load (n := 1) (i := 0) (off := 2) hw.fr rfl rfl, ?_⟩; conv => whnf
 refine ans_call (r := .i (-1)) b387 rfl (fun w' _ => indexCirc_nil f w') ?_; conv => whnf
 repeat refine zq ?_
 refine At.ret (At.doneB tab_ok hB _ rfl fun w' hw => ⟨rfl, hw.fr⟩)
theorem named_nil (br : Nat) (p : RunP) (id : Int) (w : World) (hr : SlOf runT [] w (hs br) [p]) : Ans Tryz.prog 261 [ptr br, vI id] (.tup [.c (.i (-1)), .c (.i 4)]) w := by
 refine calls_e [.x (ptr br), .i id] Tryz.func261 rfl rfl (Nat.le_of_ble_eq_true rfl) trivial fun B hB => ?_
 repeat refine zq ?_
 refine zr ?_; conv => whnf
 intro b3; conv => whnf
 repeat refine zq ?_
 refine zr ?_; conv => whnf
 refine ans_call (r := .i (-1)) b312 rfl (fun w' hw => find_nil br p _ w' (hr.ext hw.fr)) ?_; conv => whnf
 repeat refine zq ?_
 refine zr ?_; conv => whnf
 repeat refine zq ?_
 refine At.cond (t := true) rfl (fun _ => ?_) (fun hq => by cases hq)
 repeat refine zq ?_
 refine zr ?_; conv => whnf
 repeat refine zq ?_
 refine At.ret (At.doneB tab_ok hB _ rfl fun w' hw => ⟨rfl, hw.fr⟩)
theorem where_join (br : Nat) (p : RunP) (e : En) (k y s : Value) (w : World) (hr : SlOf runT [] w (hs br) [p]) (he : EnIn [] w e k y s) (hk : e.kind = 1) : Ans Tryz.prog 232 [ptr br, vE e k y s] (.tup [.c (.i (-1)), .c (.i 4)]) w := by
 refine calls_e [.x (ptr br), .s (.agg [.i e.author, .i e.seq, .i e.day, .x k, .i 1, .i e.circle, .i e.who, .i e.n, .i e.m, .i e.ref, .x y, .x s, .s e.text])] Tryz.func232 rfl (by show [ptr br, vE e k y s].toArray = _; unfold vE; rw [hk]; rfl) (Nat.le_of_ble_eq_true rfl) trivial fun B hB => ?_
 repeat refine zq ?_
 refine zr ?_; conv => whnf
 refine ⟨he.k.one, ?_⟩; conv => whnf
 refine ⟨he.y.one, ?_⟩; conv => whnf
 refine ⟨he.s.one, ?_⟩; conv => whnf
 intro b3; conv => whnf
 repeat refine zq ?_
 refine zr ?_; conv => whnf
 repeat refine zq ?_
 refine zr ?_; conv => whnf
 repeat refine zq ?_
 refine At.block ?_
 repeat refine zq ?_
 refine zr ?_; conv => whnf
 repeat refine zq ?_
 refine At.cond (t := false) rfl (fun hq => by cases hq) (fun _ => ?_)
 repeat refine zq ?_
 refine zr ?_; conv => whnf
 repeat refine zq ?_
 refine At.cond (t := false) rfl (fun hq => by cases hq) (fun _ => ?_)
 repeat refine zq ?_
 refine zr ?_; conv => whnf
 repeat refine zq ?_
 refine At.cond (t := false) rfl (fun hq => by cases hq) (fun _ => ?_)
 repeat refine zq ?_
 refine zr ?_; conv => whnf
 repeat refine zq ?_
 refine At.cond (t := false) rfl (fun hq => by cases hq) (fun _ => ?_)
 repeat refine zq ?_
 refine zr ?_; conv => whnf
 repeat refine zq ?_
 refine At.cond (t := false) rfl (fun hq => by cases hq) (fun _ => ?_)
 repeat refine zq ?_
 refine zr ?_; conv => whnf
 repeat refine zq ?_
 refine At.cond (t := false) rfl (fun hq => by cases hq) (fun _ => ?_)
 repeat refine zq ?_
 refine zr ?_; conv => whnf
 repeat refine zq ?_
 refine At.cond (t := false) rfl (fun hq => by cases hq) (fun _ => ?_)
 repeat refine zq ?_
 refine zr ?_; conv => whnf
 repeat refine zq ?_
 refine At.cond (t := false) rfl (fun hq => by cases hq) (fun _ => ?_)
 repeat refine zq ?_
 refine zr ?_; conv => whnf
 repeat refine zq ?_
 refine At.cond (t := false) rfl (fun hq => by cases hq) (fun _ => ?_)
 repeat refine zq ?_
 refine zr ?_; conv => whnf
 refine ans_call (r := .tup [.c (.i (-1)), .c (.i 4)]) b261 rfl (fun w' hw => named_nil br p _ w' (hr.ext hw.fr)) ?_; conv => whnf
 repeat refine zq ?_
 refine At.ret (At.doneB tab_ok hB _ rfl fun w' hw => ⟨rfl, hw.fr⟩)
theorem later_join (br : Nat) (p : RunP) (e : En) (mk : Int) (k y s : Value) (w : World) (hr : SlOf runT [] w (hs br) [p]) (he : EnIn [] w e k y s) (hk : e.kind = 1) : Ans Tryz.prog 172 [ptr br, vE e k y s, vI mk] (.tup [.c (.i (-1)), .c (.i 4)]) w := by
 refine calls_e [.x (ptr br), .s (.agg (encE e k y s)), .i mk] Tryz.func172 rfl rfl (Nat.le_of_ble_eq_true rfl) trivial fun B hB => ?_
 repeat refine zq ?_
 refine zr ?_; conv => whnf
 refine ⟨he.k.one, ?_⟩; conv => whnf
 refine ⟨he.y.one, ?_⟩; conv => whnf
 refine ⟨he.s.one, ?_⟩; conv => whnf
 intro b4; conv => whnf
 repeat refine zq ?_
 refine zr ?_; conv => whnf
 refine rawE_make vI vId ?_
 intro m; conv => whnf
 refine rawE_insert (id := 1) (key := 0) (v := .func (.func 215) #[] #[]) kl3 ⟨_, rfl⟩ (fun p _ => ⟨p.1, rfl⟩) vI_inj um306 rfl rfl rfl rfl rfl rfl ?_; conv => whnf
 refine rawE_insert (id := 1) (key := 1) (v := .func (.func 216) #[] #[]) kl3 ⟨_, rfl⟩ (fun p _ => ⟨p.1, rfl⟩) vI_inj um306 rfl rfl rfl rfl rfl rfl ?_; conv => whnf
 refine rawE_insert (id := 1) (key := 2) (v := .func (.func 217) #[] #[]) kl3 ⟨_, rfl⟩ (fun p _ => ⟨p.1, rfl⟩) vI_inj um306 rfl rfl rfl rfl rfl rfl ?_; conv => whnf
 refine rawE_insert (id := 1) (key := 3) (v := .func (.func 218) #[] #[]) kl3 ⟨_, rfl⟩ (fun p _ => ⟨p.1, rfl⟩) vI_inj um306 rfl rfl rfl rfl rfl rfl ?_; conv => whnf
 refine rawE_insert (id := 1) (key := 4) (v := .func (.func 219) #[] #[]) kl3 ⟨_, rfl⟩ (fun p _ => ⟨p.1, rfl⟩) vI_inj um306 rfl rfl rfl rfl rfl rfl ?_; conv => whnf
 refine rawE_insert (id := 1) (key := 5) (v := .func (.func 220) #[] #[]) kl3 ⟨_, rfl⟩ (fun p _ => ⟨p.1, rfl⟩) vI_inj um306 rfl rfl rfl rfl rfl rfl ?_; conv => whnf
 refine rawE_insert (id := 1) (key := 6) (v := .func (.func 220) #[] #[]) kl3 ⟨_, rfl⟩ (fun p _ => ⟨p.1, rfl⟩) vI_inj um306 rfl rfl rfl rfl rfl rfl ?_; conv => whnf
 refine rawE_insert (id := 1) (key := 7) (v := .func (.func 221) #[] #[]) kl3 ⟨_, rfl⟩ (fun p _ => ⟨p.1, rfl⟩) vI_inj um306 rfl rfl rfl rfl rfl rfl ?_; conv => whnf
 refine rawE_insert (id := 1) (key := 8) (v := .func (.func 222) #[] #[]) kl3 ⟨_, rfl⟩ (fun p _ => ⟨p.1, rfl⟩) vI_inj um306 rfl rfl rfl rfl rfl rfl ?_; conv => whnf
 refine rawE_insert (id := 1) (key := 9) (v := .func (.func 223) #[] #[]) kl3 ⟨_, rfl⟩ (fun p _ => ⟨p.1, rfl⟩) vI_inj um306 rfl rfl rfl rfl rfl rfl ?_; conv => whnf
 refine rawE_insert (id := 1) (key := 10) (v := .func (.func 224) #[] #[]) kl3 ⟨_, rfl⟩ (fun p _ => ⟨p.1, rfl⟩) vI_inj um306 rfl rfl rfl rfl rfl rfl ?_; conv => whnf
 refine rawE_insert (id := 1) (key := 11) (v := .func (.func 225) #[] #[]) kl3 ⟨_, rfl⟩ (fun p _ => ⟨p.1, rfl⟩) vI_inj um306 rfl rfl rfl rfl rfl rfl ?_; conv => whnf
 refine rawE_insert (id := 1) (key := 13) (v := .func (.func 226) #[] #[]) kl3 ⟨_, rfl⟩ (fun p _ => ⟨p.1, rfl⟩) vI_inj um306 rfl rfl rfl rfl rfl rfl ?_; conv => whnf
 refine rawE_insert (id := 1) (key := 12) (v := .func (.func 227) #[] #[]) kl3 ⟨_, rfl⟩ (fun p _ => ⟨p.1, rfl⟩) vI_inj um306 rfl rfl rfl rfl rfl rfl ?_; conv => whnf
 refine rawE_insert (id := 1) (key := 14) (v := .func (.func 228) #[] #[]) kl3 ⟨_, rfl⟩ (fun p _ => ⟨p.1, rfl⟩) vI_inj um306 rfl rfl rfl rfl rfl rfl ?_; conv => whnf
 refine rawE_insert (id := 1) (key := 15) (v := .func (.func 229) #[] #[]) kl3 ⟨_, rfl⟩ (fun p _ => ⟨p.1, rfl⟩) vI_inj um306 rfl rfl rfl rfl rfl rfl ?_; conv => whnf
 refine rawE_insert (id := 1) (key := 16) (v := .func (.func 230) #[] #[]) kl3 ⟨_, rfl⟩ (fun p _ => ⟨p.1, rfl⟩) vI_inj um306 rfl rfl rfl rfl rfl rfl ?_; conv => whnf
 refine rawE_insert (id := 1) (key := 17) (v := .func (.func 231) #[] #[]) kl3 ⟨_, rfl⟩ (fun p _ => ⟨p.1, rfl⟩) vI_inj um306 rfl rfl rfl rfl rfl rfl ?_; conv => whnf
 repeat refine zq ?_
 refine zr ?_; conv => whnf
 refine ans_call (r := .tup [.c (.i (-1)), .c (.i 4)]) b232 rfl (fun w' hw => where_join br p e k y s w' (hr.ext hw.fr) (he.fr hw.fr) hk) ?_; conv => whnf
 repeat refine zq ?_
 refine zr ?_; conv => whnf
 repeat refine zq ?_
 refine At.cond (t := true) rfl (fun _ => ?_) (fun hq => by cases hq)
 repeat refine zq ?_
 refine zr ?_; conv => whnf
 repeat refine zq ?_
 refine At.ret (At.doneB tab_ok hB _ rfl fun w' hw => ⟨rfl, hw.fr⟩)
def errJ (ks : List Int) (a : Int) : Int := if hasI ks a then 4 else 18
theorem fails_join (br : Nat) (p : RunP) (ks : List Int) (e : En) (mk : Int) (k y s : Value) (w : World) (hr : SlOf runT [] w (hs br) [p]) (hks : SlOf intT [] w p.1 ks) (he : EnIn [] w e k y s) (hk : e.kind = 1) : Ans Tryz.prog 134 [ptr br, vE e k y s, vI mk] (.tup [.c (.i (-1)), .c (.i (errJ ks e.author))]) w := by
 refine calls_e [.s (.c (.e (hs br) 9 0 0)), .s (.agg (encE e k y s)), .i mk] Tryz.func134 rfl rfl (Nat.le_of_ble_eq_true rfl) ⟨⟨_, _, _, rfl⟩, trivial⟩ fun B hB => ?_
 repeat refine zq ?_
 refine zr ?_; conv => whnf
 refine ⟨he.k.one, ?_⟩; conv => whnf
 refine ⟨he.y.one, ?_⟩; conv => whnf
 refine ⟨he.s.one, ?_⟩; conv => whnf
 intro b4; conv => whnf
 repeat refine zq ?_
 refine At.planG tab_ok mixed [(0, LO.box b4 40 (encE e k y s))] (.take 0 (.take 1 (.take 2 (.take 3 (.take 4 (.take 5 (.take 6 (.br 7 (.take 8 (.done)) (.nob))))))))) (by kernel_rfl) (by kernel_rfl) ⟨rfl, trivial⟩ ?_; conv => whnf
 refine ⟨[.x p.1], fun w' hw => hr.load (n := 1) (i := 0) (off := 1) hw rfl rfl, ?_⟩; conv => whnf
 refine ⟨?_, trivial⟩; conv => whnf
 refine ans_call (r := .b (hasI ks e.author)) b52 rfl (fun w' hw => contains_c ks e.author [] p.1 w' (hks.fr hw.fr)) ?_; conv => whnf
 refine ⟨⟨⟨rfl, trivial⟩, fun w' hw => hw.fr⟩, ?_⟩; conv => whnf
 repeat refine zq ?_
 refine At.cond rfl (fun hq => ?_) (fun hq => At.skip ?_)
 ·have hh : hasI ks e.author = false := by simpa using hq
  repeat refine zq ?_
  refine zr ?_; conv => whnf
  repeat refine zq ?_
  refine At.ret (At.doneB tab_ok hB _ rfl fun w' hw => ⟨?_, hw.fr⟩)
  unfold errJ; rw [hh]; rfl
 ·have hh : hasI ks e.author = true := by simpa using hq
  repeat refine zq ?_
  refine zr ?_; conv => whnf
  refine ans_call (r := .tup [.c (.i (-1)), .c (.i 4)]) b172 rfl (fun w' hw => later_join br p e mk k y s w' (hr.ext hw.fr) (he.fr hw.fr) hk) ?_; conv => whnf
  repeat refine zq ?_
  refine At.ret (At.doneB tab_ok hB _ rfl fun w' hw => ⟨?_, hw.fr⟩)
  unfold errJ; rw [hh]; rfl
end Go.Proofs.YtdigebokbhmfaaaGreatDoor.Ap
