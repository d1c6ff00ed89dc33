/- Texts that the law leans on. -/
import Derived.Test.YtdigebokbhmfaaaGreatDoorX27
import Derived.Test.YtdigebokbhmfaaaGreatDoorPVcRound
import Derived.Test.YtdigebokbhmfaaaGreatDoorX25
import Derived.Test.YtdigebokbhmfaaaGreatDoorX20
import Derived.Test.YtdigebokbhmfaaaGreatDoorX22
import Derived.Laws.IdiomStrings
set_option linter.unusedVariables false
set_option linter.unusedSimpArgs false
namespace Go.Vc
theorem equalIn_pp {P : Program} {t e : TypeId} {b : Addr} (d : Nat) (hu : P.underlying t = some (.pointer e)) (w : World) : (Op.equalIn (d + 1) t (.pointer none) (.pointer (some b))).run P w = .ok false w := by
 rw [Op.equalIn]
 simp only [Sem.run_bind, run_underlying hu, Result.andThen_ok, Sem.run_pure]
 rfl
theorem rawQ_np {P : Program} {st : St} {keys : Keys} {dst : Option Nat} {t ty e : TypeId} {x y : Operand} {t' : TypeId} {pos : String} {after : Array Edge} {guard : Option (Nat × Bool)} {u v : RV} {b : Addr} (ht : P.underlying t = some (.pointer e)) (hx : opv st keys x = some u) (hy : opv st keys y = some v) (hu : u.den = .pointer none) (hv : v.den = .pointer (some b)) :
  RawQ P st keys { dst := dst, op := .binOp .eql t x y t', type := ty, pos := pos, after := after, guard := guard } (.b false) :=
 ⟨fun ρ hρ w _ => by
  have e1 := hρ x _ hx
  have e2 := hρ y _ hy
  rw [hu] at e1
  rw [hv] at e2
  have eq := equalIn_pp (P := P) (b := b) 9999 ht w
  simp only [execOp, e1, e2, Sem.run_bind, eqGuard_ptr, Result.andThen_ok, binOp, Op.equal, Op.maxDepth, eq, Sem.run_pure]
  rfl⟩
end Go.Vc
namespace Go.Proofs.YtdigebokbhmfaaaGreatDoor.Ap
open Go.Vc Rt Go.Bs
set_option maxHeartbeats 1000000
theorem u27 : Tryz.prog.underlying 27 = some (.pointer 81) := by kernel_rfl
theorem idxH_c (L : List Nat) (v : Value) (w : World) (h : SlOf vT1 [] w v (L.map ptr)) : Ans Tryz.prog 68 [v, .pointer none] (.i (-1)) w := by
 have hln : slen v = L.length := by have := h.len; simpa using this
 have hsm : L.length ≤ 9223372036854775807 := by have := h.small; simp only [List.length_map] at this; omega
 refine calls_e [.x v, .x (.pointer none)] Tryz.func68 rfl rfl (Nat.le_of_ble_eq_true rfl) trivial fun B hB => ?_
 repeat refine zq ?_
 refine zr ?_; conv => whnf
 repeat refine zq ?_
 refine zr ?_; conv => whnf
 refine ⟨h.sl, ?_⟩; conv => whnf
 repeat refine zq ?_
 refine At.block ?_
 refine At.loopH (fun k : Nat => { N := Tryz.f68.ntmps, sl := [(0, some (.x v)), (1, some (.x ((.pointer none)))), (7, some (.i L.length)), (8, some (.i k))], gl := [], hp := [], S := [], ws := w }) (fun k : Nat => k ≤ L.length) (fun k : Nat => L.length - k)
  (fun w' hw => ⟨0, Nat.zero_le _, Le.of rfl rfl ⟨rfl, rfl, congrArg (Value.int .i64) hln, rfl, trivial⟩, hw.same rfl rfl rfl, trivial, trivial⟩) ?_
 intro k hk
 repeat refine zq ?_
 refine zr ?_; conv => whnf
 repeat refine zq ?_
 refine At.cond rfl (fun hc => At.skip ?_) (fun hc => At.exit ?_)
 ·have hltg : k < L.length := by have := of_decide_eq_true hc; omega
  obtain ⟨g, hg⟩ : ∃ x, L[k]? = some x := ⟨_, List.getElem?_eq_getElem hltg⟩
  have hlt : k < L.length := by have := of_decide_eq_true hc; omega
  repeat refine zq ?_
  refine At.block ?_
  repeat refine zq ?_
  refine zr ?_; conv => whnf
  repeat refine zq ?_
  refine zr ?_; conv => whnf
  refine ⟨by omega, ?_⟩; conv => whnf
  refine ⟨by omega, ?_⟩; conv => whnf
  refine ⟨[.x (ptr g)], fun w' hw => h.load (n := 1) hw.fr (by rw [List.getElem?_map, hg]; rfl) rfl, ?_⟩; conv => whnf
  refine ⟨.b false, gimp_of (rawQ_np u27 rfl rfl rfl rfl), ?_⟩; conv => whnf
  repeat refine zq ?_
  refine At.cond (t := false) rfl (fun hq => by cases hq) (fun _ => At.skip ?_)
  repeat refine zq ?_
  refine zr ?_; conv => whnf
  refine ⟨⟨by omega, by omega⟩, ?_⟩; conv => whnf
  refine At.nextH fun w' hw => ⟨k + 1, by omega, by omega, Le.of rfl rfl ⟨rfl, rfl, rfl, rfl, trivial⟩, hw.keep [] rfl rfl rfl, trivial, trivial⟩
 ·have hge : k = L.length := by have := of_decide_eq_false hc; omega
  subst hge
  repeat refine zq ?_
  refine zr ?_; conv => whnf
  repeat refine zq ?_
  refine At.ret (At.doneB tab_ok hB _ rfl fun w' hw => ⟨rfl, hw.fr⟩)
theorem conH_c (L : List Nat) (v : Value) (w : World) (h : SlOf vT1 [] w v (L.map ptr)) : Ans Tryz.prog 39 [v, .pointer none] (.b false) w := by
 refine calls_e [.x v, .x (.pointer none)] Tryz.func39 rfl rfl (Nat.le_of_ble_eq_true rfl) trivial fun B hB => ?_
 repeat refine zq ?_
 refine zr ?_; conv => whnf
 repeat refine zq ?_
 refine zr ?_; conv => whnf
 refine ans_call (r := .i (-1)) b68 rfl (fun w' hw => idxH_c L v w' (h.ext hw.fr)) ?_; conv => whnf
 repeat refine zq ?_
 refine At.ret (At.doneB tab_ok hB _ rfl fun w' hw => ⟨rfl, hw.fr⟩)
structure RgOk (R : List SK) : Prop where
 len : R.length ≤ 4000
 sk : ∀ p ∈ R, okSK p ∧ p.2.length ≤ 900000
theorem nok_good {R : List SK} (hR : RgOk R) {N : List Nd} (h : GN R N) : NOk N := by
 have key : ∀ k, NOk (N.take k) := by
  intro k
  induction k with
  | zero => exact nok_nil
  | succ k ih =>
   rcases Nat.lt_or_ge k N.length with hk | hk
   ·have hg := List.getElem?_eq_getElem hk
    have a := h.at hg
    obtain ⟨j, hj, hp⟩ := idxL_look (validR_iff.1 a.valid)
    have hjl := (List.getElem?_eq_some_iff.1 hp).1
    obtain ⟨q1, q2⟩ := hR.sk _ (List.mem_of_getElem? hp)
    have hn := nok_add (R := R) (mk := N[k].mark) ih q1 q2 ⟨by have := hR.len; omega, by have := hR.len; omega⟩
    have e := h k _ hg
    rw [e] at hn
    rw [take_snoc hg]
    exact hn
   ·rw [List.take_of_length_le (by omega)]
    rw [List.take_of_length_le (by omega)] at ih
    exact ih
 have := key N.length
 rwa [List.take_length] at this
theorem join_call {st : St} {d : Option Nat} {K : St → Prop} {id h rb g rb2 : Nat} {B : List Nat} {N N2 : List Nd} {R : List SK} (hl : Vc.look st.hp id = some (histO h rb B N)) (hRo : RgOk R) (hg : GN R N) (hg2 : GN R N2)
  (hG : ∀ w, Holds st w → Gl w) (H2 : ∀ w, Holds st w → HR (nub B) w g rb2 N2) (hR : ∀ w, Holds st w → RgR B w rb R)
  (hK : ∀ B' M', GN R M' → (∀ m, m ∈ mksN M' ↔ m ∈ mksN N ∨ m ∈ mksN N2) → hpSetK st.hp id (histO h rb B' M') (fun hp => st.withHp hp (fun st' => goPut st' d (.i 0) K))) : UCall Tryz.prog st 41 [ptr h, ptr g] d K :=
 obj_call (id := id) (o := histO h rb B N) b41 hl (fun r o' => r = .i 0 ∧ ∃ B' M', o' = histO h rb B' M' ∧ GN R M' ∧ ∀ m, m ∈ mksN M' ↔ m ∈ mksN N ∨ m ∈ mksN N2)
  (fun w hw => by
   refine (join_c h rb B N (nok_good hRo hg) g rb2 N2 (nok_good hRo hg2) R w (hG w hw) (hw.objs _ (look_mem hl)) (H2 w hw) (hR w hw)).mono ?_
   rintro e w' ⟨L, B', he, hp, hs, ho, hf, hb⟩
   obtain ⟨q1, q2, q3⟩ := join_good hg hg2 hRo.len hp hs
   exact ⟨.i 0, histO h rb B' (addAll R N L).1, by rw [he, q1]; rfl, ⟨rfl, B', _, rfl, q2, q3⟩, ho, hf, hb⟩)
  (fun r o' ⟨hr, B', M', ho, h1, h2⟩ => by
   subst hr; subst ho
   exact ⟨⟨fun b T cells e => (by unfold histO at e; cases e), trivial, trivial⟩, hK B' M' h1 h2⟩)
theorem restore_r (h rb : Nat) (N : List Nd) (R : List SK) (hRo : RgOk R) (hg : GN R N) (L : List (Nat × Nat × List Nd)) (hL : ∀ x ∈ L, GN R x.2.2) (v : Value) (w : World) (hG : Gl w) (H : HR [] w h rb N) (hR : RgR [] w rb R) (HL : ∀ x ∈ L, HR [] w x.1 x.2.1 x.2.2) (hv : SlOf vT1 [] w v ((L.map (·.1)).map ptr)) :
  Calls Tryz.prog 10 #[ptr h, v] w (fun e w' => ∃ i : Nat × List Nat × List Nd, (GN R i.2.2 ∧ ∀ m, m ∈ mksN i.2.2 ↔ m ∈ mksN N ∨ ∃ x ∈ L, m ∈ mksN x.2.2) ∧ e = .returned (.tuple #[ptr i.1, vI 0]) ∧ (histO i.1 rb i.2.1 i.2.2).holds w' ∧ (∀ b ∈ i.2.1, w.heap.size ≤ b) ∧ Ext w w') := by
 have hN := nok_good hRo hg
 have hln : slen v = L.length := by have := hv.len; simpa using this
 have hsm : L.length ≤ 9223372036854775807 := by have := hv.small; simp only [List.length_map] at this; omega
 obtain ⟨cg, cm⟩ := restrict_good hg hRo.len (marksB N)
 have hcm : ∀ m, m ∈ mksN (restrictB R N (marksB N)) ↔ m ∈ mksN N := fun m => by
  rw [cm]
  constructor
  ·rintro ⟨b, _, hb, hq⟩
   rcases hq with rfl | hq
   ·exact hb
   ·exact hg.anc_mem hq hb
  ·intro hm
   exact ⟨m, mks_mem.2 hm, hm, .inl rfl⟩
 refine calls_e [.x (ptr h), .x v] Tryz.func10 rfl rfl (Nat.le_of_ble_eq_true rfl) trivial fun B hB => ?_
 repeat refine zq ?_
 refine zr ?_; conv => whnf
 repeat refine zq ?_
 refine At.regionG tab_ok ?_; conv => whnf
 refine ans_call (r := .b false) b39 rfl (fun w' hw => conH_c (L.map (·.1)) v w' (hv.ext hw.fr)) ?_; conv => whnf
 repeat refine zq ?_
 refine At.cond (t := false) rfl (fun hq => by cases hq) (fun _ => At.skip ?_)
 repeat refine zq ?_
 refine zr ?_; conv => whnf
 refine newAb_call (fun i : Nat × List Nat => .x (ptr i.1)) (fun i => i.2) (fun i => HistQ i.1 rb i.2 (restrictB R N (marksB N))) b40 (fun _ => rfl) (fun w' hw => copy_r h rb N hN R w' (hG.ext hw.fr) (H.ext hw.fr) (hR.fr hw.fr)) ?_
 rintro ⟨h2, B2⟩
 conv => whnf
 repeat refine zq ?_
 refine zr ?_; conv => whnf
 refine ⟨hv.sl, ?_⟩; conv => whnf
 repeat refine zq ?_
 refine At.block ?_
 refine At.loopH (fun p' : Nat × List Nat × List Nd => { N := Tryz.f10.ntmps, sl := [(6, some (.x ((ptr h2)))), (18, some (.x v)), (19, some (.i L.length)), (20, some (.i p'.1))], gl := [], hp := [(0, histO h2 rb p'.2.1 p'.2.2)], S := [], ws := w }) (fun p' : Nat × List Nat × List Nd => p'.1 ≤ L.length ∧ GN R p'.2.2 ∧ ∀ m, m ∈ mksN p'.2.2 ↔ m ∈ mksN N ∨ ∃ x ∈ L.take p'.1, m ∈ mksN x.2.2) (fun p' : Nat × List Nat × List Nd => L.length - p'.1)
  (fun w' hw => ⟨(0, B2, restrictB R N (marksB N)), ⟨Nat.zero_le _, cg, fun m => by rw [hcm]; simp⟩, Le.of rfl rfl ⟨rfl, rfl, congrArg (Value.int .i64) hln, rfl, trivial⟩, hw.keep [0] rfl rfl rfl, trivial, trivial⟩) ?_
 rintro ⟨k, BB, M⟩ ⟨hk, hM, hMm⟩
 simp only at hk hM hMm ⊢
 repeat refine zq ?_
 refine zr ?_; conv => whnf
 repeat refine zq ?_
 refine At.cond rfl (fun hc => At.skip ?_) (fun hc => At.exit ?_)
 ·have hlty : k < L.length := by have := of_decide_eq_true hc; omega
  obtain ⟨y, hy⟩ : ∃ x, L[k]? = some x := ⟨_, List.getElem?_eq_getElem hlty⟩
  have hlt : k < L.length := by have := of_decide_eq_true hc; omega
  have hyL := List.mem_of_getElem? hy
  repeat refine zq ?_
  refine At.block ?_
  repeat refine zq ?_
  refine zr ?_; conv => whnf
  refine ⟨by omega, ?_⟩; conv => whnf
  refine ⟨by omega, ?_⟩; conv => whnf
  refine ⟨[.x (ptr y.1)], fun w' hw => hv.load (n := 1) hw.fr (by rw [List.getElem?_map, List.getElem?_map, hy]; rfl) rfl, ?_⟩; conv => whnf
  repeat refine zq ?_
  refine zr ?_; conv => whnf
  refine join_call (id := 0) (h := h2) (rb := rb) (B := BB) (N := M) (g := y.1) (rb2 := y.2.1) (N2 := y.2.2) (R := R) rfl hRo hM (hL y hyL) (fun w' hw => hG.ext hw.fr) (fun w' hw => (hw.liftH (HL y hyL)).avoid fun b hb => .inl (List.mem_flatMap.2 ⟨_, look_mem (s := 0) rfl, hb⟩)) (fun w' hw => (hw.liftR hR).avoid fun b hb => .inl (List.mem_flatMap.2 ⟨_, look_mem (s := 0) rfl, mem_nub.2 hb⟩)) ?_
  intro B3 M3 hM3 hm3
  have hm4 : ∀ m, m ∈ mksN M3 ↔ m ∈ mksN N ∨ ∃ x ∈ L.take (k + 1), m ∈ mksN x.2.2 := fun m => by
   rw [hm3, hMm, take_snoc hy]
   constructor
   ·rintro ((h | ⟨x, hx, h⟩) | h)
    ·exact .inl h
    ·exact .inr ⟨x, List.mem_append.2 (.inl hx), h⟩
    ·exact .inr ⟨y, List.mem_append.2 (.inr (List.mem_singleton.2 rfl)), h⟩
   ·rintro (h | ⟨x, hx, h⟩)
    ·exact .inl (.inl h)
    ·rcases List.mem_append.1 hx with hx | hx
     ·exact .inl (.inr ⟨x, hx, h⟩)
     ·rw [List.mem_singleton.1 hx] at h; exact .inr h
  conv => whnf
  repeat refine zq ?_
  refine zr ?_; conv => whnf
  repeat refine zq ?_
  refine At.cond (t := false) rfl (fun hq => by cases hq) (fun _ => At.skip ?_)
  repeat refine zq ?_
  refine zr ?_; conv => whnf
  refine ⟨⟨by omega, by omega⟩, ?_⟩; conv => whnf
  refine At.nextH fun w' hw => ⟨(k + 1, B3, M3), ⟨by simp only; omega, hM3, hm4⟩, by simp only; omega, Le.of rfl rfl ⟨rfl, rfl, rfl, rfl, trivial⟩, hw.keep [0] rfl rfl rfl, trivial, trivial⟩
 ·have hge : k = L.length := by have := of_decide_eq_false hc; omega
  subst hge
  rw [List.take_length] at hMm
  repeat refine zq ?_
  refine zr ?_; conv => whnf
  repeat refine zq ?_
  refine At.ret (At.doneB tab_ok hB _ rfl fun w' hw => ⟨(h2, BB, M), ⟨hM, hMm⟩, rfl, hw.objs _ (look_mem (s := 0) rfl), fun b hb => (hw.fresh (id := 0) rfl b (mem_nub.2 hb)).elim (fun h => by cases h) _root_.id, hw.fr⟩)
theorem idxN_c (v : Value) (w : World) (h : SlOf vT1 [] w v [.pointer none]) : Ans Tryz.prog 68 [v, .pointer none] (.i 0) w := by
 have hln : slen v = 1 := by have := h.len; simpa using this
 refine calls_e [.x v, .x (.pointer none)] Tryz.func68 rfl rfl (Nat.le_of_ble_eq_true rfl) trivial fun B hB => ?_
 repeat refine zq ?_
 refine zr ?_; conv => whnf
 repeat refine zq ?_
 refine zr ?_; conv => whnf
 refine ⟨h.sl, ?_⟩; conv => whnf
 repeat refine zq ?_
 refine At.block ?_
 refine At.loop1 ?_
 repeat refine zq ?_
 refine zr ?_; conv => whnf
 repeat refine zq ?_
 refine At.cond rfl (fun hc => At.skip ?_) (fun hc => by have := of_decide_eq_false hc; omega)
 repeat refine zq ?_
 refine At.block ?_
 repeat refine zq ?_
 refine zr ?_; conv => whnf
 repeat refine zq ?_
 refine zr ?_; conv => whnf
 refine ⟨by omega, ?_⟩; conv => whnf
 refine ⟨by omega, ?_⟩; conv => whnf
 refine ⟨[.x (.pointer none)], fun w' hw => h.load (n := 1) (i := 0) (off := 0) hw.fr rfl rfl, ?_⟩; conv => whnf
 repeat refine zq ?_
 refine At.cond (t := true) rfl (fun _ => ?_) (fun hq => by cases hq)
 repeat refine zq ?_
 refine zr ?_; conv => whnf
 repeat refine zq ?_
 refine At.ret (At.doneB tab_ok hB _ rfl fun w' hw => ⟨rfl, hw.fr⟩)
theorem conN_c (v : Value) (w : World) (h : SlOf vT1 [] w v [.pointer none]) : Ans Tryz.prog 39 [v, .pointer none] (.b true) w := by
 refine calls_e [.x v, .x (.pointer none)] Tryz.func39 rfl rfl (Nat.le_of_ble_eq_true rfl) trivial fun B hB => ?_
 repeat refine zq ?_
 refine zr ?_; conv => whnf
 repeat refine zq ?_
 refine zr ?_; conv => whnf
 refine ans_call (r := .i 0) b68 rfl (fun w' hw => idxN_c v w' (h.ext hw.fr)) ?_; conv => whnf
 repeat refine zq ?_
 refine At.ret (At.doneB tab_ok hB _ rfl fun w' hw => ⟨rfl, hw.fr⟩)
theorem restoreN_c (h : Nat) (v : Value) (w : World) (hv : SlOf vT1 [] w v [.pointer none]) : Ans Tryz.prog 10 [ptr h, v] (.tup [.c (.x (.pointer none)), .c (.i 1)]) w := by
 refine calls_e [.x (ptr h), .x v] Tryz.func10 rfl rfl (Nat.le_of_ble_eq_true rfl) trivial fun B hB => ?_
 repeat refine zq ?_
 refine zr ?_; conv => whnf
 repeat refine zq ?_
 refine At.regionG tab_ok ?_; conv => whnf
 refine ans_call (r := .b true) b39 rfl (fun w' hw => conN_c v w' (hv.ext hw.fr)) ?_; conv => whnf
 repeat refine zq ?_
 refine At.cond (t := true) rfl (fun _ => ?_) (fun hq => by cases hq)
 repeat refine zq ?_
 refine zr ?_; conv => whnf
 repeat refine zq ?_
 refine At.ret (At.doneB tab_ok hB _ rfl fun w' hw => ⟨rfl, hw.fr⟩)
end Go.Proofs.YtdigebokbhmfaaaGreatDoor.Ap
namespace Go.Proofs.YtdigebokbhmfaaaGreatDoor
open Go.Vc Rt Go.Bs
theorem alook_append {K V : Type} [DecidableEq K] {L X : List (K × V)} {k : K} {v : V} (h : alook L k = some v) : alook (L ++ X) k = some v := by
 unfold alook at h ⊢
 rw [List.find?_append]
 cases hf : List.find? (fun p => decide (p.1 = k)) L with
 | none => rw [hf] at h; cases h
 | some q => rw [hf] at h; exact h
theorem alook_mem {K V : Type} [DecidableEq K] {L : List (K × V)} {p : K × V} (h : p ∈ L) : ∃ v, alook L p.1 = some v := by
 refine Option.isSome_iff_exists.1 ?_
 unfold alook
 rw [Option.isSome_map, List.find?_isSome]
 exact ⟨p, h, by simp⟩
end Go.Proofs.YtdigebokbhmfaaaGreatDoor
namespace Go.Bs
open Rt
def rDig : Nat → Int → B
 | 0, _ => []
 | k + 1, n => bif decide (-10 < n) then [UInt8.ofNat (48 - n.tmod 10).toNat] else rDig k (n.tdiv 10) ++ [UInt8.ofNat (48 - n.tmod 10).toNat]
theorem rDig_len : ∀ (k : Nat) (n : Int), (rDig k n).length ≤ k
 | 0, _ => by simp [rDig]
 | k + 1, n => by
  unfold rDig
  cases decide (-10 < n)
  ·have := rDig_len k (n.tdiv 10)
   simp only [cond_false, List.length_append, List.length_cons, List.length_nil]; omega
  ·simp
def rInt (n : Int) : B := bif decide (n < 0) then ([45] ++ rDig 19 n) ++ [59] else rDig 19 (0 - n) ++ [59]
def rNum (n : Int) : B := bif decide (n < 0) then [] else rInt n
def rNums (l : List Int) : B := ((rDig 19 (0 - l.length) ++ [91]) ++ (l.map rInt).flatten) ++ [93]
def rTextS (s : B) : B := ((rDig 19 (0 - s.length) ++ [58]) ++ s) ++ [44]
theorem rInt_len (n : Int) : (rInt n).length ≤ 21 := by
 unfold rInt
 have h1 := rDig_len 19 n
 have h2 := rDig_len 19 (0 - n)
 cases decide (n < 0)
 ·simp only [cond_false, List.length_append, List.length_cons, List.length_nil]; omega
 ·simp only [cond_true, List.length_append, List.length_cons, List.length_nil]; omega
theorem rNum_len (n : Int) : (rNum n).length ≤ 21 := by
 unfold rNum
 have := rInt_len n
 cases decide (n < 0) <;> simp <;> omega
theorem rInts_len : ∀ (l : List Int), ((l.map rInt).flatten).length ≤ 21 * l.length
 | [] => by simp
 | n :: l => by
  have h1 := rInt_len n
  have h2 := rInts_len l
  simp only [List.map_cons, List.flatten_cons, List.length_append, List.length_cons]; omega
theorem rNums_len (l : List Int) : (rNums l).length ≤ 21 + 21 * l.length := by
 unfold rNums
 have h1 := rDig_len 19 (0 - l.length)
 have h2 := rInts_len l
 simp only [List.length_append, List.length_cons, List.length_nil]; omega
theorem rTextS_len (s : B) : (rTextS s).length ≤ 21 + s.length := by
 unfold rTextS
 have h1 := rDig_len 19 (0 - s.length)
 simp only [List.length_append, List.length_cons, List.length_nil]; omega
def rSp (s : B) (x : Span) : B := ((s ++ rNum x.m) ++ rNum x.f) ++ rNum x.t
def rSps (s : B) (l : List Span) : B := l.foldl rSp s
theorem rSp_len (s : B) (x : Span) : (rSp s x).length ≤ s.length + 63 := by
 have h1 := rNum_len x.m
 have h2 := rNum_len x.f
 have h3 := rNum_len x.t
 simp only [rSp, List.length_append]; omega
theorem rSps_len : ∀ (l : List Span) (s : B), (rSps s l).length ≤ s.length + 63 * l.length
 | [], s => by simp [rSps]
 | x :: l, s => by
  have h1 := rSps_len l (rSp s x)
  have h2 := rSp_len s x
  show (rSps (rSp s x) l).length ≤ _
  simp only [List.length_cons]; omega
def rT1 (e : En) : B := ((rNum e.author ++ rNum e.seq) ++ rNum e.day) ++ rNums e.knows
def rT2 (e : En) : B := ((rT1 e ++ rNum e.kind) ++ rNum e.circle) ++ rNum e.who
def rT3 (e : En) : B := ((((rT2 e ++ rInt e.n) ++ rInt e.m) ++ rInt e.ref) ++ rNums e.keys) ++ rNum e.spans.length
def rText (e : En) : B := bif rRight e then rSps (rT3 e) e.spans ++ rTextS e.text else []
structure EnQ (e : En) : Prop where
 author : iR e.author
 seq : iR e.seq
 day : iR e.day
 kind : iR e.kind
 circle : iR e.circle
 who : iR e.who
 n : iR e.n
 m : iR e.m
 ref : iR e.ref
 knows : ∀ x ∈ e.knows, iR x
 keys : ∀ x ∈ e.keys, iR x
 spans : ∀ s ∈ e.spans, iR s.m ∧ iR s.f ∧ iR s.t
def fewE (e : En) : Bool := bif (bif (bif decide ((e.knows.length : Int) ≤ 40) then decide ((e.keys.length : Int) ≤ 12) else false) then decide ((e.spans.length : Int) ≤ 12) else false) then decide ((e.text.length : Int) ≤ 300) else false
theorem fewE_true {e : En} (h : fewE e = true) : e.knows.length ≤ 40 ∧ e.keys.length ≤ 12 ∧ e.spans.length ≤ 12 ∧ e.text.length ≤ 300 := by
 unfold fewE at h
 simp only [Bool.cond_false_right, Bool.and_eq_true, decide_eq_true_eq] at h
 omega
theorem rT1_len (e : En) : (rT1 e).length ≤ 84 + 21 * e.knows.length := by
 have h1 := rNum_len e.author; have h2 := rNum_len e.seq; have h3 := rNum_len e.day; have h4 := rNums_len e.knows
 simp only [rT1, List.length_append]; omega
theorem rT2_len (e : En) : (rT2 e).length ≤ 147 + 21 * e.knows.length := by
 have h0 := rT1_len e; have h1 := rNum_len e.kind; have h2 := rNum_len e.circle; have h3 := rNum_len e.who
 simp only [rT2, List.length_append]; omega
theorem rT3_len (e : En) : (rT3 e).length ≤ 252 + 21 * e.knows.length + 21 * e.keys.length := by
 have h0 := rT2_len e; have h1 := rInt_len e.n; have h2 := rInt_len e.m; have h3 := rInt_len e.ref; have h4 := rNums_len e.keys; have h5 := rNum_len e.spans.length
 simp only [rT3, List.length_append]; omega
theorem rText_len {e : En} (h : fewE e = true) : (rText e).length ≤ 10000 := by
 obtain ⟨h1, h2, h3, h4⟩ := fewE_true h
 have a1 := rT3_len e
 have a2 := rSps_len e.spans (rT3 e)
 have a3 := rTextS_len e.text
 unfold rText
 cases rRight e
 ·simp
 ·simp only [cond_true, List.length_append]; omega
end Go.Bs
namespace Go.Proofs.YtdigebokbhmfaaaGreatDoor
open Go.Vc Rt Go.Bs
set_option maxHeartbeats 2000000
theorem tmod_neg10 {n : Int} (h : n ≤ 0) : n.tmod 10 = -((-n) % 10) := by
 have e : n = -(-n) := by omega
 rw [e, Int.neg_tmod, Int.neg_neg, Int.tmod_eq_emod_of_nonneg (by omega)]
theorem tdiv_neg10 {n : Int} (h : n ≤ 0) : n.tdiv 10 = -((-n) / 10) := by
 have e : n = -(-n) := by omega
 rw [e, Int.neg_tdiv, Int.neg_neg, Int.tdiv_eq_ediv_of_nonneg (by omega)]
theorem rawQ_bin {P : Program} {st : St} {keys : Keys} {dst : Option Nat} {op : BinOp} {t ty : TypeId} {x y : Operand} {t' : TypeId} {pos : String} {after : Array Edge} {guard : Option (Nat × Bool)} {u v r : RV} {a b : Int} (hx : opv st keys x = some u) (hy : opv st keys y = some v) (hu : u.den = vI a) (hv : v.den = vI b)
  (h : ∀ w : World, (binOp op t (vI a) (vI b)).run P w = .ok r.den w) : RawQ P st keys { dst := dst, op := .binOp op t x y t', type := ty, pos := pos, after := after, guard := guard } r :=
 ⟨fun ρ hρ w _ => by
  have e1 := hρ x _ hx
  have e2 := hρ y _ hy
  rw [hu] at e1
  rw [hv] at e2
  simp only [execOp, e1, e2, Sem.run_bind, eqGuard_int, Result.andThen_ok, h w, Sem.run_pure]⟩
theorem run_rem10 {P : Program} {t : TypeId} (a : Int) (w : World) : (binOp .rem t (vI a) (vI 10)).run P w = .ok (vI (a.tmod 10)) w := by
 simp [binOp, Op.intDiv]
theorem run_quo10 {P : Program} {t : TypeId} {a : Int} (h : inR (a.tdiv 10)) (w : World) : (binOp .quo t (vI a) (vI 10)).run P w = .ok (vI (a.tdiv 10)) w := by
 simp [binOp, Op.intDiv, wrap_inR h]
theorem run_gtr {P : Program} {t : TypeId} (a b : Int) (w : World) : (binOp .gtr t (vI a) (vI b)).run P w = .ok (.bool (decide (b < a))) w := by
 simp [binOp, Op.intCmp]
theorem u145 : Tryz.prog.underlying 123 = some (.slice 5) := by kernel_rfl
theorem u5' : Tryz.prog.underlying 5 = some (.int .u8) := by kernel_rfl
theorem u9' : Tryz.prog.underlying 9 = some .string := by kernel_rfl
theorem run_byte {w : World} {v : Value} {d : Int} (h : (LO.row v 5 1 [[.x (.int .u8 d)]]).holds w) (h0 : 0 ≤ d) (h1 : d ≤ 255) : (convert 123 9 v).run Tryz.prog w = .ok (sv [UInt8.ofNat d.toNat]) w := by
 have hs : SlOf (flat 1 (fun d : Int => [CV.x (.int .u8 d)]) (fun _ => rfl)) [] w v [d] := SlOf.of_row (enc := fun d : Int => [CV.x (.int .u8 d)]) (xs := [d]) h (fun _ _ => nilS) (by simp)
 obtain ⟨a, n, c, rfl⟩ := rows_some h (by simp)
 have hn : n = 1 := by have := hs.len; simp [slen] at this; omega
 subst hn
 obtain ⟨l, rfl, he⟩ := hs.elem 0 d rfl
 have hcell := he a 1 c rfl 0 (.int .u8 d) rfl
 have ea : (elemAddr a 1 ((0 : Nat) : Int) 0).add 0 = a.add 0 := by
  unfold elemAddr; rw [add_add, add_add]; rfl
 have hd : ((UInt8.ofNat d.toNat).toNat : Int) = d := by
  rw [UInt8.toNat_ofNat_of_lt' (by show d.toNat < 256; omega)]; omega
 refine run_convert_bytes_back (P := Tryz.prog) w 123 9 5 a c [UInt8.ofNat d.toNat] u145 u5' u9' fun j hj => ?_
 obtain rfl : j = 0 := by simp at hj; omega
 rw [← ea]
 show w.cell? _ = some (.int .u8 ((UInt8.ofNat d.toNat).toNat : Int))
 rw [hd]
 exact hcell
theorem refDig_c : ∀ (k : Nat), k ≤ 1000 → ∀ (n : Int), -(10 ^ (k + 1) : Int) < n → n ≤ 0 → -9223372036854775808 ≤ n → ∀ w, Ans Tryz.prog 155 [vI n] (rS (rDig (k + 1) n)) w := by
 intro k
 induction k with
 | zero =>
  intro _ n hk h0 hR w
  have hm := tmod_neg10 h0
  refine calls_plainB [.x (vI n)] Tryz.func155 rfl rfl (Nat.le_of_ble_eq_true rfl) rfl fun B hB => ?_
  repeat refine zq ?_
  refine zr ?_; conv => whnf
  repeat refine zq ?_
  refine zr ?_; conv => whnf
  refine ⟨.i (n.tmod 10), gimp_of (rawQ_bin rfl rfl rfl rfl (fun w => run_rem10 n w)), ?_⟩; conv => whnf
  refine ⟨⟨by omega, by omega⟩, ?_⟩; conv => whnf
  refine ⟨⟨by omega, by omega⟩, ?_⟩; conv => whnf
  refine ⟨rfl, ?_⟩; conv => whnf
  intro v8; conv => whnf
  refine ⟨rS [UInt8.ofNat (48 - n.tmod 10).toNat], gq fun ρ hρ w' hw => ?_, ?_⟩
  ·have e := hρ (.tmp 8) _ rfl
   simp only [RV.den, SV.den, CV.den] at e
   simp only [execOp, e, Sem.run_bind, run_byte (hw.row (id := 0) rfl) (by omega) (by omega), Result.andThen_ok, Sem.run_pure]
   rfl
  conv => whnf
  repeat refine zq ?_
  refine zr ?_; conv => whnf
  refine ⟨.b (decide (-10 < n)), gimp_of (rawQ_bin rfl rfl rfl rfl (fun w => run_gtr n _ w)), ?_⟩; conv => whnf
  repeat refine zq ?_
  refine At.cond rfl (fun hq => ?_) (fun hq => At.skip ?_)
  ·repeat refine zq ?_
   refine zr ?_; conv => whnf
   repeat refine zq ?_
   refine At.ret (At.doneB tab_ok hB _ rfl fun w' hw => ⟨?_, hw.fr⟩)
   unfold rDig; rw [hq]; rfl
  ·have := of_decide_eq_false hq
   omega
 | succ k ih =>
  intro hk9 n hk h0 hR w
  have hm := tmod_neg10 h0
  have hdv := tdiv_neg10 h0
  refine calls_plainB [.x (vI n)] Tryz.func155 rfl rfl (Nat.le_of_ble_eq_true rfl) rfl fun B hB => ?_
  repeat refine zq ?_
  refine zr ?_; conv => whnf
  repeat refine zq ?_
  refine zr ?_; conv => whnf
  refine ⟨.i (n.tmod 10), gimp_of (rawQ_bin rfl rfl rfl rfl (fun w => run_rem10 n w)), ?_⟩; conv => whnf
  refine ⟨⟨by omega, by omega⟩, ?_⟩; conv => whnf
  refine ⟨⟨by omega, by omega⟩, ?_⟩; conv => whnf
  refine ⟨rfl, ?_⟩; conv => whnf
  intro v8; conv => whnf
  refine ⟨rS [UInt8.ofNat (48 - n.tmod 10).toNat], gq fun ρ hρ w' hw => ?_, ?_⟩
  ·have e := hρ (.tmp 8) _ rfl
   simp only [RV.den, SV.den, CV.den] at e
   simp only [execOp, e, Sem.run_bind, run_byte (hw.row (id := 0) rfl) (by omega) (by omega), Result.andThen_ok, Sem.run_pure]
   rfl
  conv => whnf
  repeat refine zq ?_
  refine zr ?_; conv => whnf
  refine ⟨.b (decide (-10 < n)), gimp_of (rawQ_bin rfl rfl rfl rfl (fun w => run_gtr n _ w)), ?_⟩; conv => whnf
  repeat refine zq ?_
  refine At.cond rfl (fun hq => ?_) (fun hq => At.skip ?_)
  ·repeat refine zq ?_
   refine zr ?_; conv => whnf
   repeat refine zq ?_
   refine At.ret (At.doneB tab_ok hB _ rfl fun w' hw => ⟨?_, hw.fr⟩)
   unfold rDig; rw [hq]; rfl
  ·have hlen := rDig_len (k + 1) (n.tdiv 10)
   have hp : (10 : Int) ^ (k + 1 + 1) = 10 ^ (k + 1) * 10 := Int.pow_succ ..
   have hpos : (0 : Int) < 10 ^ (k + 1) := Int.pow_pos (by decide)
   have hbig : -(10 ^ (k + 1) : Int) < n.tdiv 10 := by rw [hp] at hk; rw [hdv]; omega
   repeat refine zq ?_
   refine zr ?_; conv => whnf
   refine ⟨.i (n.tdiv 10), gimp_of (rawQ_bin rfl rfl rfl rfl (fun w => run_quo10 ⟨by omega, by omega⟩ w)), ?_⟩; conv => whnf
   refine ans_call b155 rfl (fun w' _ => ih (by omega) (n.tdiv 10) hbig (by omega) (by omega) w') ?_; conv => whnf
   refine ⟨by simp only [List.length_cons, List.length_nil]; omega, ?_⟩; conv => whnf
   repeat refine zq ?_
   refine At.ret (At.doneB tab_ok hB _ rfl fun w' hw => ⟨?_, hw.fr⟩)
   rw [show rDig (k + 1 + 1) n = rDig (k + 1) (n.tdiv 10) ++ [UInt8.ofNat (48 - n.tmod 10).toNat] by
    show (bif decide (-10 < n) then _ else _) = _
    rw [hq]; rfl]
theorem pow19 : (10 : Int) ^ (18 + 1) = 10000000000000000000 := by decide
theorem refDig19_c (n : Int) (h0 : n ≤ 0) (hR : -9223372036854775808 ≤ n) (w : World) : Ans Tryz.prog 155 [vI n] (rS (rDig 19 n)) w :=
 refDig_c 18 (by decide) n (by rw [pow19]; omega) h0 hR w
theorem refInt_c (n : Int) (h : iR n) (w : World) : Ans Tryz.prog 104 [vI n] (rS (rInt n)) w := by
 have h1 := h.1
 have h2 := h.2
 have hl1 := rDig_len 19 n
 have hl2 := rDig_len 19 (0 - n)
 refine calls_plainB [.i n] Tryz.func104 rfl rfl (Nat.le_of_ble_eq_true rfl) rfl fun B hB => ?_
 repeat refine zq ?_
 refine zr ?_; conv => whnf
 repeat refine zq ?_
 refine zr ?_; conv => whnf
 repeat refine zq ?_
 refine At.cond rfl (fun hq => ?_) (fun hq => At.skip ?_)
 ·have hn := of_decide_eq_true hq
  repeat refine zq ?_
  refine zr ?_; conv => whnf
  refine ans_call b155 rfl (fun w' _ => refDig19_c n (by omega) (by omega) w') ?_; conv => whnf
  refine ⟨by (try simp only [List.length_append, List.length_cons, List.length_nil]); omega, ?_⟩; conv => whnf
  refine ⟨by (try simp only [List.length_append, List.length_cons, List.length_nil]); omega, ?_⟩; conv => whnf
  repeat refine zq ?_
  refine At.ret (At.doneB tab_ok hB _ rfl fun w' hw => ⟨?_, hw.fr⟩)
  unfold rInt; rw [hq]; rfl
 ·have hn := of_decide_eq_false hq
  repeat refine zq ?_
  refine zr ?_; conv => whnf
  refine ⟨⟨by omega, by omega⟩, ?_⟩; conv => whnf
  refine ans_call b155 rfl (fun w' _ => refDig19_c (0 - n) (by omega) (by omega) w') ?_; conv => whnf
  refine ⟨by (try simp only [List.length_append, List.length_cons, List.length_nil]); omega, ?_⟩; conv => whnf
  repeat refine zq ?_
  refine At.ret (At.doneB tab_ok hB _ rfl fun w' hw => ⟨?_, hw.fr⟩)
  unfold rInt; rw [hq]; rfl
theorem refNum_c (n : Int) (h : iR n) (w : World) : Ans Tryz.prog 102 [vI n] (rS (rNum n)) w := by
 refine calls_plainB [.i n] Tryz.func102 rfl rfl (Nat.le_of_ble_eq_true rfl) rfl fun B hB => ?_
 repeat refine zq ?_
 refine zr ?_; conv => whnf
 repeat refine zq ?_
 refine zr ?_; conv => whnf
 repeat refine zq ?_
 refine At.cond rfl (fun hq => ?_) (fun hq => At.skip ?_)
 ·repeat refine zq ?_
  refine zr ?_; conv => whnf
  repeat refine zq ?_
  refine At.ret (At.doneB tab_ok hB _ rfl fun w' hw => ⟨?_, hw.fr⟩)
  unfold rNum; rw [hq]; rfl
 ·repeat refine zq ?_
  refine zr ?_; conv => whnf
  refine ans_call b104 rfl (fun w' _ => refInt_c n h w') ?_; conv => whnf
  repeat refine zq ?_
  refine At.ret (At.doneB tab_ok hB _ rfl fun w' hw => ⟨?_, hw.fr⟩)
  unfold rNum; rw [hq]; rfl
theorem refText_c (s : List UInt8) (h : s.length ≤ 1000000) (w : World) : Ans Tryz.prog 105 [sv s] (rS (rTextS s)) w := by
 have hl2 := rDig_len 19 (0 - s.length)
 refine calls_plainB [rS s] Tryz.func105 rfl rfl (Nat.le_of_ble_eq_true rfl) rfl fun B hB => ?_
 repeat refine zq ?_
 refine zr ?_; conv => whnf
 repeat refine zq ?_
 refine zr ?_; conv => whnf
 refine ⟨⟨by omega, by omega⟩, ?_⟩; conv => whnf
 refine ans_call b155 rfl (fun w' _ => refDig19_c (0 - s.length) (by omega) (by omega) w') ?_; conv => whnf
 refine ⟨by (try simp only [List.length_append, List.length_cons, List.length_nil]); omega, ?_⟩; conv => whnf
 refine ⟨by (try simp only [List.length_append, List.length_cons, List.length_nil]); omega, ?_⟩; conv => whnf
 refine ⟨by (try simp only [List.length_append, List.length_cons, List.length_nil]); omega, ?_⟩; conv => whnf
 repeat refine zq ?_
 refine At.ret (At.doneB tab_ok hB _ rfl fun w' hw => ⟨rfl, hw.fr⟩)
theorem take_flat {xs : List Int} {k : Nat} {x : Int} (hx : xs[k]? = some x) : ((xs.take (k + 1)).map rInt).flatten = ((xs.take k).map rInt).flatten ++ rInt x := by
 rw [List.take_add_one, hx]; simp
theorem refNums_c (xs : List Int) (hx' : ∀ x ∈ xs, iR x) (hl : xs.length ≤ 1000) (S : List Nat) (v : Value) (w : World) (h : SlOf intT S w v xs) : Ans Tryz.prog 103 [v] (rS (rNums xs)) w := by
 replace h := h.avoid (S' := []) (fun b hb => by cases hb)
 have hln := h.len
 have hl2 := rDig_len 19 (0 - xs.length)
 refine calls_plainB [.x v] Tryz.func103 rfl rfl (Nat.le_of_ble_eq_true rfl) rfl fun B hB => ?_
 repeat refine zq ?_
 refine zr ?_; conv => whnf
 repeat refine zq ?_
 refine zr ?_; conv => whnf
 refine ⟨h.sl, ?_⟩; conv => whnf
 refine ⟨⟨by omega, by omega⟩, ?_⟩; conv => whnf
 refine ans_call b155 rfl (fun w' _ => by rw [hln]; exact refDig19_c (0 - xs.length) (by omega) (by omega) w') ?_; conv => whnf
 refine ⟨by (try simp only [List.length_append, List.length_cons, List.length_nil]); omega, ?_⟩; conv => whnf
 repeat refine zq ?_
 refine zr ?_; conv => whnf
 repeat refine zq ?_
 refine At.block ?_
 refine At.loopF (fun k : Nat => { N := Tryz.f103.ntmps, sl := [(0, some (.x v)), (3, some (rS ((rDig 19 (0 - xs.length) ++ [91]) ++ ((xs.take k).map rInt).flatten))), (4, some (.i k))], gl := [], hp := [], S := [], ws := w }) (fun k => k ≤ xs.length) (fun k => xs.length - k)
  (fun w' hw => ⟨0, Nat.zero_le _, Le.of rfl rfl ⟨rfl, by rw [List.take_zero, List.map_nil, List.flatten_nil, List.append_nil]; rfl, rfl, trivial⟩, WF.plain rfl, hw.same rfl rfl rfl⟩) ?_
 intro k hk
 have hfl := rInts_len (xs.take k)
 rw [List.length_take] at hfl
 repeat refine zq ?_
 refine zr ?_; conv => whnf
 refine ⟨h.sl, ?_⟩; conv => whnf
 repeat refine zq ?_
 refine At.cond rfl (fun hc => At.skip ?_) (fun hc => At.exit ?_)
 ·have hlt : k < xs.length := by have := of_decide_eq_true hc; omega
  have hx := getD_some (xs := xs) (i := k) hlt
  have hr : iR (xs.getD k 0) := hx' _ (List.mem_of_getElem? hx)
  have hil := rInt_len (xs.getD k 0)
  repeat refine zq ?_
  refine At.block ?_
  repeat refine zq ?_
  refine zr ?_; conv => whnf
  refine ⟨by omega, ?_⟩; conv => whnf
  refine ⟨by omega, ?_⟩; conv => whnf
  refine ⟨[.i (xs.getD k 0)], fun w' hw => h.load (n := 1) hw.fr hx rfl, ?_⟩; conv => whnf
  refine ans_call b104 rfl (fun w' _ => refInt_c _ hr w') ?_; conv => whnf
  refine ⟨by (try simp only [List.length_append, List.length_cons, List.length_nil]); omega, ?_⟩; conv => whnf
  repeat refine zq ?_
  refine zr ?_; conv => whnf
  refine ⟨⟨by omega, by omega⟩, ?_⟩; conv => whnf
  refine At.next fun w' hw => ⟨k + 1, by omega, by omega, Le.of rfl rfl ⟨rfl, by rw [take_flat hx, ← List.append_assoc]; rfl, rfl, trivial⟩, WF.plain rfl, hw.keep [] rfl rfl rfl⟩
 ·have hge : k = xs.length := by have := of_decide_eq_false hc; omega
  subst hge
  repeat refine zq ?_
  refine zr ?_; conv => whnf
  refine ⟨by (try simp only [List.length_append, List.length_cons, List.length_nil]); omega, ?_⟩; conv => whnf
  repeat refine zq ?_
  refine At.ret (At.doneB tab_ok hB _ rfl fun w' hw => ⟨?_, hw.fr⟩)
  rw [List.take_length]; rfl
theorem fewEntry_c (e : En) (k y s : Value) (S : List Nat) (w : World) (h : EnIn S w e k y s) : Ans Tryz.prog 32 [vE e k y s] (.b (fewE e)) w := by
 replace h := h.nilS
 have hkl := h.k.len
 have hyl := h.y.len
 have hsl := h.s.len
 refine calls_plainB [.s (.agg (encE e k y s))] Tryz.func32 rfl rfl (Nat.le_of_ble_eq_true rfl) rfl fun B hB => ?_
 repeat refine zq ?_
 refine zr ?_; conv => whnf
 refine ⟨h.k.one, ?_⟩; conv => whnf
 refine ⟨h.y.one, ?_⟩; conv => whnf
 refine ⟨h.s.one, ?_⟩; conv => whnf
 intro b; conv => whnf
 repeat refine zq ?_
 refine zr ?_; conv => whnf
 refine ⟨h.k.sl, ?_⟩; conv => whnf
 refine ⟨by simp only [gimp]; intros; exact h.y.sl, ?_⟩; conv => whnf
 refine ⟨by simp only [gimp]; intros; exact h.s.sl, ?_⟩; conv => whnf
 repeat refine zq ?_
 refine At.ret (At.doneB tab_ok hB _ rfl fun w' hw => ⟨?_, hw.fr⟩)
 rw [hkl, hyl, hsl]; rfl
theorem rSps_snoc {xs : List Span} {k : Nat} {x : Span} (hx : xs[k]? = some x) (s : List UInt8) : rSps s (xs.take (k + 1)) = rSp (rSps s (xs.take k)) x := by
 rw [List.take_add_one, hx]; simp [rSps]
theorem refTextE_c (e : En) (k y s : Value) (S : List Nat) (w : World) (h : EnIn S w e k y s) (hQ : EnQ e) (hF : fewE e = true) : Ans Tryz.prog 64 [vE e k y s] (rS (rText e)) w := by
 replace h := h.nilS
 have hkl := h.k.len
 have hyl := h.y.len
 have hsl := h.s.len
 obtain ⟨f1, f2, f3, f4⟩ := fewE_true hF
 have l1 := rNum_len e.author; have l2 := rNum_len e.seq; have l3 := rNum_len e.day; have l4 := rNums_len e.knows
 have l5 := rNum_len e.kind; have l6 := rNum_len e.circle; have l7 := rNum_len e.who
 have l8 := rInt_len e.n; have l9 := rInt_len e.m; have l10 := rInt_len e.ref; have l11 := rNums_len e.keys; have l12 := rNum_len e.spans.length
 have t1 := rT1_len e; have t2 := rT2_len e; have t3 := rT3_len e; have t4 := rTextS_len e.text
 refine calls_plainB [.s (.agg (encE e k y s))] Tryz.func64 rfl rfl (Nat.le_of_ble_eq_true rfl) rfl fun B hB => ?_
 repeat refine zq ?_
 refine zr ?_; conv => whnf
 refine ⟨h.k.one, ?_⟩; conv => whnf
 refine ⟨h.y.one, ?_⟩; conv => whnf
 refine ⟨h.s.one, ?_⟩; conv => whnf
 intro b; conv => whnf
 repeat refine zq ?_
 refine zr ?_; conv => whnf
 refine ans_call b101 rfl (fun w' hw => rright_c e k y s [] w' (h.fr hw.fr)) ?_; conv => whnf
 repeat refine zq ?_
 refine At.cond rfl (fun hq => ?_) (fun hq => At.skip ?_)
 ·have hR : rRight e = false := by simpa using hq
  repeat refine zq ?_
  refine zr ?_; conv => whnf
  repeat refine zq ?_
  refine At.ret (At.doneB tab_ok hB _ rfl fun w' hw => ⟨?_, hw.fr⟩)
  unfold rText; rw [hR]; rfl
 have hR : rRight e = true := by simpa using hq
 clear hq
 repeat refine zq ?_
 refine At.draw tab_ok mixed (by kernel_rfl) ?_; conv => whnf
 refine ⟨rS (rNum e.author), ans_quiet b102 (fun w' _ => refNum_c _ hQ.author w'), ?_⟩; conv => whnf
 refine ⟨rS (rNum e.seq), ans_quiet b102 (fun w' _ => refNum_c _ hQ.seq w'), ?_⟩; conv => whnf
 refine ⟨by (try simp only [List.length_append]); omega, ?_⟩; conv => whnf
 refine ⟨rS (rNum e.day), ans_quiet b102 (fun w' _ => refNum_c _ hQ.day w'), ?_⟩; conv => whnf
 refine ⟨by (try simp only [List.length_append]); omega, ?_⟩; conv => whnf
 refine ⟨rS (rNums e.knows), ans_quiet b103 (fun w' hw => refNums_c _ hQ.knows (by omega) [] k w' (h.k.fr hw.fr)), ?_⟩; conv => whnf
 refine ⟨by (try simp only [List.length_append]); omega, ?_⟩; conv => whnf
 rw [show ((rNum e.author ++ rNum e.seq) ++ rNum e.day) ++ rNums e.knows = rT1 e from rfl]
 repeat refine zq ?_
 refine At.draw tab_ok mixed (by kernel_rfl) ?_; conv => whnf
 refine ⟨rS (rNum e.kind), ans_quiet b102 (fun w' _ => refNum_c _ hQ.kind w'), ?_⟩; conv => whnf
 refine ⟨by (try simp only [List.length_append]); omega, ?_⟩; conv => whnf
 refine ⟨rS (rNum e.circle), ans_quiet b102 (fun w' _ => refNum_c _ hQ.circle w'), ?_⟩; conv => whnf
 refine ⟨by (try simp only [List.length_append]); omega, ?_⟩; conv => whnf
 refine ⟨rS (rNum e.who), ans_quiet b102 (fun w' _ => refNum_c _ hQ.who w'), ?_⟩; conv => whnf
 refine ⟨by (try simp only [List.length_append]); omega, ?_⟩; conv => whnf
 rw [show ((rT1 e ++ rNum e.kind) ++ rNum e.circle) ++ rNum e.who = rT2 e from rfl]
 repeat refine zq ?_
 refine At.draw tab_ok mixed (by kernel_rfl) ?_; conv => whnf
 refine ⟨rS (rInt e.n), ans_quiet b104 (fun w' _ => refInt_c _ hQ.n w'), ?_⟩; conv => whnf
 refine ⟨by (try simp only [List.length_append]); omega, ?_⟩; conv => whnf
 refine ⟨rS (rInt e.m), ans_quiet b104 (fun w' _ => refInt_c _ hQ.m w'), ?_⟩; conv => whnf
 refine ⟨by (try simp only [List.length_append]); omega, ?_⟩; conv => whnf
 refine ⟨rS (rInt e.ref), ans_quiet b104 (fun w' _ => refInt_c _ hQ.ref w'), ?_⟩; conv => whnf
 refine ⟨by (try simp only [List.length_append]); omega, ?_⟩; conv => whnf
 refine ⟨rS (rNums e.keys), ans_quiet b103 (fun w' hw => refNums_c _ hQ.keys (by omega) [] y w' (h.y.fr hw.fr)), ?_⟩; conv => whnf
 refine ⟨by (try simp only [List.length_append]); omega, ?_⟩; conv => whnf
 refine ⟨h.s.sl, ?_⟩; conv => whnf
 refine ⟨rS (rNum e.spans.length), ans_quiet b102 (fun w' _ => by rw [hsl]; exact refNum_c _ ⟨by omega, by omega⟩ w'), ?_⟩; conv => whnf
 refine ⟨by (try simp only [List.length_append]); omega, ?_⟩; conv => whnf
 rw [show ((((rT2 e ++ rInt e.n) ++ rInt e.m) ++ rInt e.ref) ++ rNums e.keys) ++ rNum e.spans.length = rT3 e from rfl]
 repeat refine zq ?_
 refine zr ?_; conv => whnf
 repeat refine zq ?_
 refine At.block ?_
 refine At.loopH (fun i : Nat => { N := Tryz.f64.ntmps, sl := [(1, some (.s (.c (.p 0 b 0)))), (3, some (rS (rSps (rT3 e) (e.spans.take i)))), (4, some (.i i))], gl := [], hp := [(0, LO.box b 40 (encE e k y s))], S := [], ws := w }) (fun i : Nat => i ≤ e.spans.length) (fun i : Nat => e.spans.length - i)
  (fun w' hw => ⟨0, Nat.zero_le _, Le.of rfl rfl ⟨rfl, rfl, rfl, trivial⟩, hw.keep [0] rfl rfl rfl, ⟨⟨_, _, rfl⟩, trivial⟩, trivial⟩) ?_
 intro i hi
 have hL := rSps_len (e.spans.take i) (rT3 e)
 rw [List.length_take] at hL
 repeat refine zq ?_
 refine zr ?_; conv => whnf
 refine ⟨h.s.sl, ?_⟩; conv => whnf
 repeat refine zq ?_
 refine At.cond rfl (fun hc => At.skip ?_) (fun hc => At.exit ?_)
 ·have hlt : i < e.spans.length := by have := of_decide_eq_true hc; omega
  have hx := getD_span (xs := e.spans) (i := i) hlt
  generalize e.spans.getD i ⟨0, 0, 0⟩ = x at hx
  obtain ⟨q1, q2, q3⟩ := hQ.spans x (List.mem_of_getElem? hx)
  have m1 := rNum_len x.m; have m2 := rNum_len x.f; have m3 := rNum_len x.t
  repeat refine zq ?_
  refine At.block ?_
  repeat refine zq ?_
  refine At.draw tab_ok mixed (by kernel_rfl) ?_; conv => whnf
  refine ⟨by omega, ?_⟩; conv => whnf
  refine ⟨by omega, ?_⟩; conv => whnf
  refine ⟨[.i x.m], fun w' hw => h.s.load (n := 1) hw.fr hx rfl, ?_⟩; conv => whnf
  refine ⟨rS (rNum x.m), ans_quiet b102 (fun w' _ => refNum_c _ q1 w'), ?_⟩; conv => whnf
  refine ⟨by (try simp only [List.length_append]); omega, ?_⟩; conv => whnf
  refine ⟨by omega, ?_⟩; conv => whnf
  refine ⟨by omega, ?_⟩; conv => whnf
  refine ⟨[.i x.f], fun w' hw => h.s.load (n := 1) hw.fr hx rfl, ?_⟩; conv => whnf
  refine ⟨rS (rNum x.f), ans_quiet b102 (fun w' _ => refNum_c _ q2 w'), ?_⟩; conv => whnf
  refine ⟨by (try simp only [List.length_append]); omega, ?_⟩; conv => whnf
  refine ⟨by omega, ?_⟩; conv => whnf
  refine ⟨by omega, ?_⟩; conv => whnf
  refine ⟨[.i x.t], fun w' hw => h.s.load (n := 1) hw.fr hx rfl, ?_⟩; conv => whnf
  refine ⟨rS (rNum x.t), ans_quiet b102 (fun w' _ => refNum_c _ q3 w'), ?_⟩; conv => whnf
  refine ⟨by (try simp only [List.length_append]); omega, ?_⟩; conv => whnf
  repeat refine zq ?_
  refine zr ?_; conv => whnf
  refine ⟨⟨by omega, by omega⟩, ?_⟩; conv => whnf
  refine At.nextH fun w' hw => ⟨i + 1, by omega, by omega, Le.of rfl rfl ⟨rfl, by rw [rSps_snoc hx]; rfl, rfl, trivial⟩, hw.keep [0] rfl rfl rfl, ⟨⟨_, _, rfl⟩, trivial⟩, trivial⟩
 ·have hge : i = e.spans.length := by have := of_decide_eq_false hc; omega
  subst hge
  repeat refine zq ?_
  refine zr ?_; conv => whnf
  refine ans_call b105 rfl (fun w' _ => refText_c _ (by omega) w') ?_; conv => whnf
  refine ⟨by (try simp only [List.length_append]); omega, ?_⟩; conv => whnf
  repeat refine zq ?_
  refine At.ret (At.doneB tab_ok hB _ rfl fun w' hw => ⟨?_, hw.fr⟩)
  unfold rText; rw [hR, List.take_length]; rfl
end Go.Proofs.YtdigebokbhmfaaaGreatDoor
namespace Go.Proofs.YtdigebokbhmfaaaGreatDoor
open Go.Vc Rt Go.Bs
theorem nodup_len {α : Type} [DecidableEq α] : ∀ {l l' : List α}, l.Nodup → (∀ x ∈ l, x ∈ l') → l.length ≤ l'.length
 | [], _, _, _ => by simp
 | x :: r, l', hn, hs => by
  have hx := hs x (by simp)
  have hn' := List.nodup_cons.1 hn
  have ih := nodup_len (l' := l'.erase x) hn'.2 fun y hy => (List.mem_erase_of_ne (fun e => hn'.1 (by rw [← e]; exact hy))).2 (hs y (List.mem_cons_of_mem _ hy))
  rw [List.length_erase_of_mem hx] at ih
  have : 0 < l'.length := List.length_pos_of_mem hx
  simp only [List.length_cons]; omega
structure Post where
 key : Int
 e : En
 raw : List UInt8
 odd : Int
instance : Inhabited Post := ⟨⟨0, zeroE, [], 0⟩⟩
def rWords (p : Post) : List UInt8 := bif !decide (p.raw = []) then p.raw else rText p.e
end Go.Proofs.YtdigebokbhmfaaaGreatDoor
namespace Go.Proofs.YtdigebokbhmfaaaGreatDoor
open Go.Vc Rt Go.Bs
theorem nilI {S : List Nat} {w : World} : SlOf intT S w (.slice none 0 0) [] := SlOf.of_row (enc := fun n => [.i n]) (E := 3) (xs := []) nil_holds (fun b hb => by simp [blkOf] at hb) (by simp)
theorem ring_new (w : World) (hG : Gl w) : Calls Tryz.prog 18 #[] w (fun e w' => ∃ i : Nat × List Nat, e = .returned (ptr i.1) ∧ (ringO i.1 i.2 []).holds w' ∧ (∀ b ∈ i.2, w.heap.size ≤ b) ∧ Ext w w') :=
 (sealNew_c w).mono fun e w' ⟨b, m, he, hat, h1, h2, hx⟩ => by
  have hb : ∀ x ∈ partsR b (.slice none 0 0) m, w.heap.size ≤ x := by
   intro x hx
   simp [partsR, blkOf] at hx
   rcases hx with rfl | rfl
   ·exact h1
   ·exact h2
  exact ⟨(b, partsR b (.slice none 0 0) m), he, ringO_of hat fun x hx => Nat.le_trans hG.size (hb x hx), hb, hx⟩
end Go.Proofs.YtdigebokbhmfaaaGreatDoor
namespace Go.Proofs.YtdigebokbhmfaaaGreatDoor
open Go.Vc Rt Go.Bs
set_option maxHeartbeats 1000000
def encP (p : Post) (k y s : Value) : List CV := [.i p.key, .i p.e.author, .i p.e.seq, .i p.e.day, .x k, .i p.e.kind, .i p.e.circle, .i p.e.who, .i p.e.n, .i p.e.m, .i p.e.ref, .x y, .x s, .s p.e.text, .s p.raw, .i p.odd]
def vP (p : Post) (k y s : Value) : Value := .agg #[.int .i64 p.key, .int .i64 p.e.author, .int .i64 p.e.seq, .int .i64 p.e.day, k, .int .i64 p.e.kind, .int .i64 p.e.circle, .int .i64 p.e.who, .int .i64 p.e.n, .int .i64 p.e.m, .int .i64 p.e.ref, y, s, sv p.e.text, sv p.raw, .int .i64 p.odd]
def postT : Ty Post where
 size := 16
 rel := fun S w p l => ∃ k y s, l = encP p k y s ∧ EnIn S w p.e k y s ∧ EnQ p.e ∧ iR p.key
 len := fun ⟨k, y, s, h, _⟩ => by rw [h]; rfl
 fr := fun hf ⟨k, y, s, h, h1, h2⟩ => ⟨k, y, s, h, h1.fr hf, h2⟩
 av := fun hs ⟨k, y, s, h, h1, h2⟩ => ⟨k, y, s, h, ⟨h1.k.avoid hs, h1.y.avoid hs, h1.s.avoid hs⟩, h2⟩
def bad08 (p : Post) : Bool := bif decide ((600 : Int) < p.raw.length) then true else !fewE p.e
def few08 (xs : List Post) (n : Int) : Bool := bif (List.range xs.length).all (fun i => bif decide ((i : Int) ≤ n) then !bad08 (xs.getD i default) else true) then decide ((xs.length : Int) ≤ n) else false
theorem getD_post {xs : List Post} {i : Nat} (h : i < xs.length) : xs[i]? = some (xs.getD i default) := by
 rw [List.getElem?_eq_getElem h, List.getD_eq_getElem?_getD, List.getElem?_eq_getElem h]; rfl
theorem few08_c (xs : List Post) (n : Int) (v : Value) (w : World) (h : SlOf postT [] w v xs) : Ans Tryz.prog 6 [v, vI n] (.b (few08 xs n)) w := by
 have hln := h.len
 have hsm := h.small
 refine calls_plainB [.x v, .i n] Tryz.func6 rfl rfl (Nat.le_of_ble_eq_true rfl) rfl fun B hB => ?_
 repeat refine zq ?_
 refine zr ?_; conv => whnf
 repeat refine zq ?_
 refine zr ?_; conv => whnf
 repeat refine zq ?_
 refine At.block ?_
 refine At.loopF (fun k : Nat => { N := Tryz.f6.ntmps, sl := [(0, some (.x v)), (1, some (.i n)), (5, some (.i k))], gl := [], hp := [], S := [], ws := w }) (fun k => k ≤ xs.length ∧ ∀ j, j < k → (fun i : Nat => bif decide ((i : Int) ≤ n) then !bad08 (xs.getD i default) else true) j = true) (fun k => xs.length - k)
  (fun w' hw => ⟨0, ⟨Nat.zero_le _, fun j hj => by omega⟩, Le.of rfl rfl ⟨rfl, rfl, rfl, trivial⟩, WF.plain rfl, hw.same rfl rfl rfl⟩) ?_
 intro k ⟨hk, hall⟩
 repeat refine zq ?_
 refine zr ?_; conv => whnf
 refine ⟨h.sl, ?_⟩; conv => whnf
 repeat refine zq ?_
 refine At.cond rfl (fun hc => At.skip ?_) (fun hc => At.exit ?_)
 ·have hlt : k < xs.length := by
   by_cases e : (k : Int) < slen v
   ·omega
   ·simp [e] at hc
  have hkn : (k : Int) ≤ n := by
   by_cases e : (k : Int) ≤ n
   ·exact e
   ·simp [e] at hc
  have hx := getD_post (xs := xs) hlt
  generalize hX : xs.getD k default = p at hx
  obtain ⟨_, ⟨kk, yy, ss, rfl, hin, hQ, hkey⟩, hc2⟩ := h.at hx
  repeat refine zq ?_
  refine At.block ?_
  repeat refine zq ?_
  refine zr ?_; conv => whnf
  refine ⟨by omega, ?_⟩; conv => whnf
  refine ⟨by omega, ?_⟩; conv => whnf
  refine ⟨[.s p.raw], fun w' hw => (hc2 w' hw.fr).part (n := 1) rfl, ?_⟩; conv => whnf
  refine ⟨gimp_of (by omega), ?_⟩; conv => whnf
  refine ⟨gimp_of (by omega), ?_⟩; conv => whnf
  refine ⟨encE p.e kk yy ss, gimp_of (fun w' hw => (hc2 w' hw.fr).part (n := 13) rfl), ?_⟩; conv => whnf
  refine ⟨.b (fewE p.e), gimp_of (ans_quiet b32 (fun w' hw => fewEntry_c p.e kk yy ss [] w' (hin.fr hw.fr))), ?_⟩; conv => whnf
  repeat refine zq ?_
  refine At.cond rfl (fun hq => ?_) (fun hq => At.skip ?_)
  ·have e : bad08 p = true := hq
   repeat refine zq ?_
   refine zr ?_; conv => whnf
   repeat refine zq ?_
   refine At.ret (At.doneB tab_ok hB _ rfl fun w' hw => ⟨?_, hw.fr⟩)
   have ef : (List.range xs.length).all (fun i : Nat => bif decide ((i : Int) ≤ n) then !bad08 (xs.getD i default) else true) = false := all_false hlt (by rw [hX, e, show decide ((k : Int) ≤ n) = true from decide_eq_true hkn]; rfl)
   unfold few08
   rw [ef]; rfl
  ·have e : bad08 p = false := hq
   repeat refine zq ?_
   refine zr ?_; conv => whnf
   refine ⟨⟨by omega, by omega⟩, ?_⟩; conv => whnf
   refine At.next fun w' hw => ⟨k + 1, ⟨by omega, fun j hj => ?_⟩, by omega, Le.of rfl rfl ⟨rfl, rfl, rfl, trivial⟩, WF.plain rfl, hw.keep [] rfl rfl rfl⟩
   rcases Nat.lt_or_ge j k with hj' | hj'
   ·exact hall j hj'
   ·obtain rfl : j = k := by omega
    simp only
    rw [hX, e]
    cases decide ((j : Int) ≤ n) <;> rfl
 ·have hex : k = xs.length ∨ n < k := by
   by_cases e : (k : Int) < slen v
   ·by_cases e2 : (k : Int) ≤ n
    ·simp [e, e2] at hc
    ·omega
   ·omega
  have ht : (List.range xs.length).all (fun i : Nat => bif decide ((i : Int) ≤ n) then !bad08 (xs.getD i default) else true) = true := all_true fun j hj => by
   rcases Nat.lt_or_ge j k with hj' | hj'
   ·exact hall j hj'
   ·rw [show decide ((j : Int) ≤ n) = false from decide_eq_false (by omega)]; rfl
  repeat refine zq ?_
  refine zr ?_; conv => whnf
  refine ⟨h.sl, ?_⟩; conv => whnf
  repeat refine zq ?_
  refine At.ret (At.doneB tab_ok hB _ rfl fun w' hw => ⟨?_, hw.fr⟩)
  unfold few08
  rw [ht, hln]; rfl
theorem words_c (p : Post) (k y s : Value) (w : World) (h : EnIn [] w p.e k y s) (hQ : EnQ p.e) (hF : fewE p.e = true) : Ans Tryz.prog 34 [vP p k y s] (rS (rWords p)) w := by
 refine calls_plainB [.s (.agg (encP p k y s))] Tryz.func34 rfl rfl (Nat.le_of_ble_eq_true rfl) rfl fun B hB => ?_
 repeat refine zq ?_
 refine zr ?_; conv => whnf
 refine ⟨h.k.one, ?_⟩; conv => whnf
 refine ⟨h.y.one, ?_⟩; conv => whnf
 refine ⟨h.s.one, ?_⟩; conv => whnf
 intro b; conv => whnf
 repeat refine zq ?_
 refine zr ?_; conv => whnf
 repeat refine zq ?_
 refine At.cond rfl (fun hq => ?_) (fun hq => At.skip ?_)
 ·repeat refine zq ?_
  refine zr ?_; conv => whnf
  repeat refine zq ?_
  refine At.ret (At.doneB tab_ok hB _ rfl fun w' hw => ⟨?_, hw.fr⟩)
  unfold rWords; rw [hq]; rfl
 ·repeat refine zq ?_
  refine zr ?_; conv => whnf
  refine ans_call b64 rfl (fun w' hw => refTextE_c p.e k y s [] w' (h.fr hw.fr) hQ hF) ?_; conv => whnf
  repeat refine zq ?_
  refine At.ret (At.doneB tab_ok hB _ rfl fun w' hw => ⟨?_, hw.fr⟩)
  unfold rWords; rw [hq]; rfl
end Go.Proofs.YtdigebokbhmfaaaGreatDoor
namespace Go.Proofs.YtdigebokbhmfaaaGreatDoor.Ap
open Go.Vc Rt Go.Bs
set_option maxHeartbeats 1000000
abbrev Sg := Int × List UInt8 × Int
def encSg (s : Sg) : List CV := [.i s.1, .s s.2.1, .i s.2.2]
theorem nopSg (xs : List Sg) : NoP (xs.map encSg) := NoP.map (fun _ => rfl) xs
def turnB (s : Sg) (odd : Int) : Sg := if odd = 1 then (s.1, s.2.1, s.2.2 + 1) else if odd = 2 then (s.1, s.2.1 ++ [120], s.2.2) else if odd = 3 then (s.1 + 1, s.2.1, s.2.2) else s
def okSg (s : Sg) (n : Nat) : Prop := (0 ≤ s.1 ∧ s.1 ≤ 1000) ∧ s.2.1.length ≤ n ∧ (0 ≤ s.2.2 ∧ s.2.2 ≤ 100000)
theorem turn_ok {s : Sg} {odd : Int} (h : okSg s 10000) : (okSK ((turnB s odd).1, (turnB s odd).2.1) ∧ (turnB s odd).2.1.length ≤ 900000) := by
 obtain ⟨⟨h1, h2⟩, h3, h4⟩ := h
 unfold turnB
 split
 ·exact ⟨⟨⟨by show _ ≤ s.1; omega, by show s.1 ≤ _; omega⟩, by show s.2.1.length ≤ _; omega⟩, by show s.2.1.length ≤ _; omega⟩
 split
 ·exact ⟨⟨⟨by show _ ≤ s.1; omega, by show s.1 ≤ _; omega⟩, by show (s.2.1 ++ [120]).length ≤ _; simp; omega⟩, by show (s.2.1 ++ [120]).length ≤ _; simp; omega⟩
 split
 ·exact ⟨⟨⟨by show _ ≤ s.1 + 1; omega, by show s.1 + 1 ≤ _; omega⟩, by show s.2.1.length ≤ _; omega⟩, by show s.2.1.length ≤ _; omega⟩
 ·exact ⟨⟨⟨by show _ ≤ s.1; omega, by show s.1 ≤ _; omega⟩, by show s.2.1.length ≤ _; omega⟩, by show s.2.1.length ≤ _; omega⟩
theorem turned_c (s : Sg) (odd : Int) (w : World) (h : okSg s 10000) : Ans Tryz.prog 33 [vSg s.1 s.2.1 s.2.2, vI odd] (.s (.agg (encSg (turnB s odd)))) w := by
 obtain ⟨k, t, m⟩ := s
 obtain ⟨⟨h1, h2⟩, h3, h4, h5⟩ := h
 simp only at h1 h2 h3 h4 h5
 refine calls_e [.s (.agg [.i k, .s t, .i m]), .i odd] Tryz.func33 rfl rfl (Nat.le_of_ble_eq_true rfl) trivial fun B hB => ?_
 repeat refine zq ?_
 refine zr ?_; conv => whnf
 intro b2; conv => whnf
 intro b4; conv => whnf
 repeat refine zq ?_
 refine zr ?_; conv => whnf
 repeat refine zq ?_
 refine At.block ?_
 repeat refine zq ?_
 refine zr ?_; conv => whnf
 repeat refine zq ?_
 refine At.cond rfl (fun hq => ?_) (fun hq => ?_)
 ·have e1 : odd = 1 := of_decide_eq_true hq
  repeat refine zq ?_
  refine zr ?_; conv => whnf
  refine ⟨⟨by omega, by omega⟩, ?_⟩; conv => whnf
  repeat refine zq ?_
  refine zr ?_; conv => whnf
  repeat refine zq ?_
  refine At.ret (At.doneB tab_ok hB _ rfl fun w' hw => ⟨?_, hw.fr⟩)
  unfold turnB; rw [if_pos e1]; rfl
 have e1 : ¬ odd = 1 := of_decide_eq_false hq
 clear hq
 repeat refine zq ?_
 refine zr ?_; conv => whnf
 repeat refine zq ?_
 refine At.cond rfl (fun hq => ?_) (fun hq => ?_)
 ·have e2 : odd = 2 := of_decide_eq_true hq
  repeat refine zq ?_
  refine zr ?_; conv => whnf
  refine ⟨by show (t.length : Int) + 1 ≤ 9223372036854775807; omega, ?_⟩; conv => whnf
  repeat refine zq ?_
  refine zr ?_; conv => whnf
  repeat refine zq ?_
  refine At.ret (At.doneB tab_ok hB _ rfl fun w' hw => ⟨?_, hw.fr⟩)
  unfold turnB; rw [if_neg e1, if_pos e2]; rfl
 have e2 : ¬ odd = 2 := of_decide_eq_false hq
 clear hq
 repeat refine zq ?_
 refine zr ?_; conv => whnf
 repeat refine zq ?_
 refine At.cond rfl (fun hq => ?_) (fun hq => At.skip ?_)
 ·have e3 : odd = 3 := of_decide_eq_true hq
  repeat refine zq ?_
  refine zr ?_; conv => whnf
  refine ⟨⟨by omega, by omega⟩, ?_⟩; conv => whnf
  repeat refine zq ?_
  refine zr ?_; conv => whnf
  repeat refine zq ?_
  refine At.ret (At.doneB tab_ok hB _ rfl fun w' hw => ⟨?_, hw.fr⟩)
  unfold turnB; rw [if_neg e1, if_neg e2, if_pos e3]; rfl
 have e3 : ¬ odd = 3 := of_decide_eq_false hq
 repeat refine zq ?_
 refine zr ?_; conv => whnf
 repeat refine zq ?_
 refine At.ret (At.doneB tab_ok hB _ rfl fun w' hw => ⟨?_, hw.fr⟩)
 unfold turnB; rw [if_neg e1, if_neg e2, if_neg e3]; rfl
def plStep (q : List SK × List Sg) (p : Post) : List SK × List Sg := (signL q.1 p.key (rWords p), q.2 ++ [turnB (sgT q.1 p.key (rWords p)) p.odd])
def plL (xs : List Post) : List SK × List Sg := xs.foldl plStep ([], [])
theorem plL_snoc {xs : List Post} {k : Nat} {p : Post} (h : xs[k]? = some p) : plL (xs.take (k + 1)) = plStep (plL (xs.take k)) p := by
 rw [take_snoc h]; unfold plL; rw [List.foldl_append]; rfl
def plH (R : List SK) (S : List Sg) : List Nd := S.foldl (fun N s => (addB R N s.1 s.2.1 s.2.2).1) []
theorem plH_snoc {R : List SK} {S : List Sg} {k : Nat} {s : Sg} (h : S[k]? = some s) : plH R (S.take (k + 1)) = (addB R (plH R (S.take k)) s.1 s.2.1 s.2.2).1 := by
 rw [take_snoc h]; unfold plH; rw [List.foldl_append]; rfl
theorem plH_good (R : List SK) (S : List Sg) : GN R (plH R S) := by
 unfold plH
 have key : ∀ (S : List Sg) (N : List Nd), GN R N → GN R (S.foldl (fun N s => (addB R N s.1 s.2.1 s.2.2).1) N) := by
  intro S
  induction S with
  | nil => intro N h; exact h
  | cons s r ih => intro N h; exact ih _ (h.add _ _ _)
 exact key S [] (GN.nil R)
def fewP (p : Post) : Prop := fewE p.e = true ∧ p.raw.length ≤ 600
theorem words_len6 {p : Post} (h : fewP p) : (rWords p).length ≤ 10000 := by
 unfold rWords
 have h1 := h.2
 have h2 := rText_len h.1
 cases decide (p.raw = [])
 ·simp only [Bool.not_false, cond_true]; omega
 ·simp only [Bool.not_true, cond_false]
  have := rText_len h.1
  omega
theorem few8_spec {xs : List Post} {n : Int} (h : few08 xs n = true) : (xs.length : Int) ≤ n ∧ ∀ p ∈ xs, fewP p := by
 unfold few08 at h
 cases h3 : (List.range xs.length).all (fun i => bif decide ((i : Int) ≤ n) then !bad08 (xs.getD i default) else true) with
 | false => rw [h3] at h; cases h
 | true =>
  rw [h3] at h
  have hn := of_decide_eq_true h
  refine ⟨hn, fun p hp => ?_⟩
  obtain ⟨i, hi, rfl⟩ := List.getElem_of_mem hp
  have e := getD_post hi
  rw [List.getElem?_eq_getElem hi] at e
  have e := Option.some.inj e
  have a1 := List.all_eq_true.1 h3 i (List.mem_range.2 hi)
  rw [← e] at a1
  rw [show decide ((i : Int) ≤ n) = true from decide_eq_true (by omega)] at a1
  simp only [cond_true, Bool.not_eq_true'] at a1
  unfold bad08 at a1
  cases hr : decide ((600 : Int) < xs[i].raw.length) with
  | true => rw [hr] at a1; cases a1
  | false =>
   rw [hr] at a1
   have h6 := of_decide_eq_false hr
   exact ⟨by simpa using a1, by omega⟩
theorem sg_ok {R : List SK} {p : Post} (hR : R.length ≤ 1000) (hf : fewP p) : okSg (sgT R p.key (rWords p)) 10000 := by
 have hl := words_len6 hf
 unfold sgT
 split
 ·rename_i hk
  unfold isKeyB at hk
  simp only [Bool.and_eq_true, decide_eq_true_eq] at hk
  refine ⟨⟨by show 0 ≤ p.key; omega, by show p.key ≤ 1000; omega⟩, hl, ?_⟩
  show 0 ≤ signM R p.key (rWords p) ∧ signM R p.key (rWords p) ≤ 100000
  unfold signM
  split
  ·cases hal : alook (idxL R) (p.key, rWords p) with
   | none => simp only [Option.getD_none]; omega
   | some i =>
    obtain ⟨j, rfl, hj⟩ := idxL_look hal
    have := (List.getElem?_eq_some_iff.1 hj).1
    simp only [Option.getD_some]; omega
  ·omega
 ·exact ⟨⟨by decide, by decide⟩, by simp, by decide, by decide⟩
theorem play_small (xs : List Post) : ∀ k, k ≤ xs.length → (plL (xs.take k)).1.length ≤ k ∧ (plL (xs.take k)).2.length = k := by
 intro k
 induction k with
 | zero => intro _; simp [plL]
 | succ k ih =>
  intro hk
  obtain ⟨i1, i2⟩ := ih (by omega)
  rw [plL_snoc (List.getElem?_eq_getElem (by omega))]
  unfold plStep
  refine ⟨?_, by simp [i2]⟩
  unfold signL
  split
  ·simp only [List.length_append, List.length_cons, List.length_nil]; omega
  ·simp only; omega
theorem play_ok (xs : List Post) (hl : xs.length ≤ 100) (hP : ∀ p ∈ xs, fewP p ∧ iR p.key) : ∀ k, k ≤ xs.length → RgOk (plL (xs.take k)).1 ∧ ∀ s ∈ (plL (xs.take k)).2, okSK (s.1, s.2.1) ∧ s.2.1.length ≤ 900000 := by
 intro k
 induction k with
 | zero => intro _; exact ⟨⟨by simp [plL], fun p hp => by simp [plL] at hp⟩, fun s hs => by simp [plL] at hs⟩
 | succ k ih =>
  intro hk
  obtain ⟨i1, i2⟩ := ih (by omega)
  have hsm := (play_small xs k (by omega)).1
  have hx := List.getElem?_eq_getElem (l := xs) (i := k) (by omega)
  rw [plL_snoc hx]
  obtain ⟨hf, hkey⟩ := hP _ (List.mem_of_getElem? hx)
  have hw := words_len6 hf
  have hsg := sg_ok (R := (plL (xs.take k)).1) (by omega) hf
  generalize plL (xs.take k) = q at i1 i2 hsm hsg ⊢
  unfold plStep
  refine ⟨⟨?_, fun p hp => ?_⟩, fun s hs => ?_⟩
  ·unfold signL
   split
   ·simp only [List.length_append, List.length_cons, List.length_nil]; omega
   ·simp only; omega
  ·unfold signL at hp
   split at hp
   ·rcases List.mem_append.1 hp with hp | hp
    ·exact i1.sk p hp
    ·rw [List.mem_singleton.1 hp]
     exact ⟨⟨hkey, by show (rWords _).length ≤ _; omega⟩, by show (rWords _).length ≤ _; omega⟩
   ·exact i1.sk p hp
  ·rcases List.mem_append.1 hs with hs | hs
   ·exact i2 s hs
   ·rw [List.mem_singleton.1 hs]; exact turn_ok hsg
def PlayQ (h rb : Nat) (BH BR : List Nat) (N : List Nd) (R : List SK) (w : World) : Prop := HistQ h rb BH N w ∧ RingQ rb BR R w
theorem histQ_hr {w : World} {h rb : Nat} {B : List Nat} {N : List Nd} (H : HistQ h rb B N w) (hN : NOk N) : HR [] w h rb N := by
 obtain ⟨h8, v, m, Bs, M, hat, rfl, hsub⟩ := H
 exact hat.hr hN (fun b hb => by cases hb)
theorem ringQ_rr {w : World} {rb : Nat} {B : List Nat} {R : List SK} (H : RingQ rb B R w) : RgR [] w rb R := by
 obtain ⟨h8, v, m, hat, hsub⟩ := H
 exact ⟨v, m, hat, fun hm => (by cases hm), fun hm => (by cases hm), fun x hx hm => (by cases hm)⟩
theorem play_c (xs : List Post) (v : Value) (w : World) (hG : Gl w) (h : SlOf postT [] w v xs) (hl : xs.length ≤ 24) (hP : ∀ p ∈ xs, fewP p) :
  Calls Tryz.prog 7 #[v] w (fun e w' => ∃ i : Value × Nat × Nat × List Nat × List Nat, e = .returned (.tuple #[i.1, ptr i.2.1]) ∧ (LO.ab (i.2.2.2.1 ++ i.2.2.2.2) (PlayQ i.2.1 i.2.2.1 i.2.2.2.1 i.2.2.2.2 (plH (plL xs).1 (plL xs).2) (plL xs).1)).holds w' ∧ (∀ b ∈ i.2.2.2.1 ++ i.2.2.2.2, w.heap.size ≤ b) ∧ Ext w w') := by
 have hln := h.len
 have hkeys : ∀ p ∈ xs, iR p.key := fun p hp => by
  obtain ⟨i, hi, rfl⟩ := List.getElem_of_mem hp
  obtain ⟨l, ⟨_, _, _, _, _, _, hk⟩, _⟩ := h.elem i _ (List.getElem?_eq_getElem hi)
  exact hk
 have hok := play_ok xs (by omega) (fun p hp => ⟨hP p hp, hkeys p hp⟩)
 refine calls_e [.x v] Tryz.func7 rfl rfl (Nat.le_of_ble_eq_true rfl) trivial fun B hB => ?_
 repeat refine zq ?_
 refine zr ?_; conv => whnf
 repeat refine zq ?_
 refine zr ?_; conv => whnf
 refine newAb_call (fun i : Nat × List Nat => .x (ptr i.1)) (fun i => i.2) (fun i => RingQ i.1 i.2 []) b18 (fun _ => rfl) (fun w' hw => ring_new w' (hG.ext hw.fr)) ?_
 rintro ⟨rb, BR0⟩
 conv => whnf
 repeat refine zq ?_
 refine zr ?_; conv => whnf
 refine newAb_call (fun i : Nat × List Nat => .x (ptr i.1)) (fun i => i.2) (fun i => HistQ i.1 rb i.2 []) b19 (fun _ => rfl) (fun w' hw => hnew8 rb w' (hG.ext hw.fr)) ?_
 rintro ⟨hb, B0⟩
 conv => whnf
 repeat refine zq ?_
 refine At.regionG tab_ok ?_; conv => whnf
 repeat refine zq ?_
 refine At.cond (t := false) rfl (fun hq => by cases hq) (fun _ => At.skip ?_)
 repeat refine zq ?_
 refine zr ?_; conv => whnf
 repeat refine zq ?_
 refine zr ?_; conv => whnf
 repeat refine zq ?_
 refine At.block ?_
 refine At.loopH (fun p' : Nat × List Nat × Value => { N := Tryz.f7.ntmps, sl := [(0, some (.x v)), (4, some (.x ((ptr rb)))), (5, some (.x ((ptr hb)))), (6, some (.s (.c (.o 2 p'.2.2)))), (7, some (.i p'.1))], gl := [], hp := [(2, .row p'.2.2 67 3 ((plL (xs.take p'.1)).2.map encSg)), (1, histO hb rb B0 []), (0, ringO rb p'.2.1 (plL (xs.take p'.1)).1)], S := [], ws := w }) (fun p' : Nat × List Nat × Value => p'.1 ≤ xs.length) (fun p' : Nat × List Nat × Value => xs.length - p'.1)
  (fun w' hw => ⟨(0, BR0, .slice none 0 0), Nat.zero_le _, Le.of rfl rfl ⟨rfl, rfl, rfl, rfl, rfl, trivial⟩, Holds.nilK hw [1, 0] rfl rfl rfl, ⟨⟨_, _, _, rfl⟩, trivial⟩, ⟨(nopSg _).okH, trivial⟩⟩) ?_
 rintro ⟨k, BR, vs⟩ hk
 simp only at hk ⊢
 repeat refine zq ?_
 refine zr ?_; conv => whnf
 refine ⟨h.sl, ?_⟩; conv => whnf
 repeat refine zq ?_
 refine At.cond rfl (fun hc => At.skip ?_) (fun hc => At.exit ?_)
 ·have hlt : k < xs.length := by have := of_decide_eq_true hc; omega
  have hx := getD_post (xs := xs) hlt
  generalize xs.getD k default = p at hx
  have hmem := List.mem_of_getElem? hx
  obtain ⟨_, ⟨kk, yy, ss, rfl, hin, hQ, hkey⟩, hc2⟩ := h.at hx
  have hF := hP p hmem
  have hwl := words_len6 hF
  have hst := plL_snoc hx
  have hsm := play_small xs k hk
  generalize plL (xs.take k) = q at hst hsm ⊢
  obtain ⟨R, S⟩ := q
  simp only at hsm ⊢
  have hsg := sg_ok (R := R) (by omega) hF
  repeat refine zq ?_
  refine At.block ?_
  repeat refine zq ?_
  refine At.planG tab_ok mixed [] (.take 0 (.take 1 (.take 2 (.take 3 (.take 4 (.take 5 (.take 6 (.take 7 (.take 8 (.take 9 (.take 10 (.take 13 (.take 14 (.take 15 (.take 16 (.take 17 (.br 11 (.br 12 (.br 18 (.br 19 (.br 20 (.take 21 (.done)) (.nob)) (.nob)) (.nob)) (.nob)) (.nob)))))))))))))))))) (by kernel_rfl) (by kernel_rfl) trivial ?_; conv => whnf
  refine ⟨by omega, ?_⟩; conv => whnf
  refine ⟨by omega, ?_⟩; conv => whnf
  refine ⟨[.i p.key], fun w' hw => (hc2 w' hw).part (n := 1) rfl, ?_⟩; conv => whnf
  refine ⟨by omega, ?_⟩; conv => whnf
  refine ⟨by omega, ?_⟩; conv => whnf
  refine ⟨encP p kk yy ss, fun w' hw => (hc2 w' hw).part (n := 16) rfl, ?_⟩; conv => whnf
  refine ⟨by omega, ?_⟩; conv => whnf
  refine ⟨by omega, ?_⟩; conv => whnf
  refine ⟨[.i p.odd], fun w' hw => (hc2 w' hw).part (n := 1) rfl, ?_⟩; conv => whnf
  refine ⟨?_, trivial⟩; conv => whnf
  refine ans_call (r := rS (rWords p)) b34 rfl (fun w' hw => words_c p kk yy ss w' (hin.fr hw.fr) hQ hF.1) ?_; conv => whnf
  refine ⟨⟨trivial, fun w' hw => hw.fr⟩, ?_⟩; conv => whnf
  refine ⟨?_, trivial⟩; conv => whnf
  refine sign_call (id := 0) (rb := rb) (B := BR) (R := R) (k := p.key) (t := rWords p) rfl ⟨hkey, by show (rWords p).length ≤ _; omega⟩ (by omega) (fun w' hw => (hG.ext hw.fr).size) ?_
  intro BR2; conv => whnf
  refine ⟨⟨trivial, fun w' hw => hw.fr⟩, ?_⟩; conv => whnf
  refine ⟨?_, trivial⟩; conv => whnf
  refine ans_call (r := .s (.agg (encSg (turnB (sgT R p.key (rWords p)) p.odd)))) b33 rfl (fun w' hw => turned_c (sgT R p.key (rWords p)) p.odd w' hsg) ?_; conv => whnf
  refine ⟨⟨trivial, fun w' hw => hw.fr⟩, ?_⟩; conv => whnf
  refine ⟨?_, trivial⟩; conv => whnf
  intro v8; conv => whnf
  refine ⟨⟨trivial, fun w' hw => hw.fr⟩, ?_⟩; conv => whnf
  refine ⟨?_, trivial⟩; conv => whnf
  refine ⟨rfl, ?_⟩; conv => whnf
  refine ⟨⟨rfl, by simp; omega⟩, ?_⟩; conv => whnf
  intro v9; conv => whnf
  refine ⟨⟨trivial, fun w' hw => hw.fr⟩, ?_⟩; conv => whnf
  repeat refine zq ?_
  refine zr ?_; conv => whnf
  refine ⟨⟨by omega, by omega⟩, ?_⟩; conv => whnf
  refine At.nextH fun w' hw => ⟨(k + 1, BR2, v9), by simp only; omega, by simp only; omega, Le.of rfl rfl ⟨rfl, rfl, rfl, rfl, rfl, trivial⟩, hw.keep [2, 1, 0] (by simp only [hst, plStep, List.map_append]; rfl) rfl rfl, ⟨⟨_, _, _, rfl⟩, trivial⟩, ⟨(nopSg _).okH, trivial⟩⟩
 ·have hge : k = xs.length := by have := of_decide_eq_false hc; omega
  subst hge
  rw [List.take_length]
  obtain ⟨hRo, hSo⟩ := hok xs.length (Nat.le_refl _)
  have hsm := (play_small xs xs.length (Nat.le_refl _)).2
  rw [List.take_length] at hRo hSo hsm
  generalize hpl : plL xs = q at hRo hSo hsm ⊢
  obtain ⟨R, S⟩ := q
  simp only at hRo hSo hsm ⊢
  have hgood := fun k => plH_good R (S.take k)
  repeat refine zq ?_
  refine zr ?_; conv => whnf
  repeat refine zq ?_
  refine At.block ?_
  refine At.loopH (fun p' : Nat × List Nat => { N := Tryz.f7.ntmps, sl := [(5, some (.x ((ptr hb)))), (6, some (.s (.c (.o 2 vs)))), (8, some (.i p'.1))], gl := [], hp := [(2, .row vs 67 3 (S.map encSg)), (1, histO hb rb p'.2 (plH R (S.take p'.1))), (0, ringO rb BR R)], S := [], ws := w }) (fun p' : Nat × List Nat => p'.1 ≤ S.length) (fun p' : Nat × List Nat => S.length - p'.1)
   (fun w' hw => ⟨(0, B0), Nat.zero_le _, Le.of rfl rfl ⟨rfl, rfl, rfl, trivial⟩, hw.keep [2, 1, 0] rfl rfl rfl, ⟨⟨_, _, _, rfl⟩, trivial⟩, ⟨(nopSg _).okH, trivial⟩⟩) ?_
  rintro ⟨k, B⟩ hk
  simp only at hk ⊢
  repeat refine zq ?_
  refine zr ?_; conv => whnf
  refine ⟨rfl, ?_⟩; conv => whnf
  repeat refine zq ?_
  refine At.cond rfl (fun hc => At.skip ?_) (fun hc => At.exit ?_)
  ·have hlt : k < S.length := by have := of_decide_eq_true hc; simp only [List.length_map] at this; omega
   obtain ⟨s, hs⟩ : ∃ s, S[k]? = some s := ⟨_, List.getElem?_eq_getElem hlt⟩
   obtain ⟨o1, o2⟩ := hSo s (List.mem_of_getElem? hs)
   have hsn := plH_snoc (R := R) hs
   have hNk := nok_good hRo (hgood k)
   generalize plH R (S.take k) = N at hsn hNk ⊢
   repeat refine zq ?_
   refine At.block ?_
   repeat refine zq ?_
   refine zr ?_; conv => whnf
   refine ⟨rfl, ?_⟩; conv => whnf
   refine ⟨by omega, ?_⟩; conv => whnf
   refine ⟨by (try simp only [List.length_map]); omega, ?_⟩; conv => whnf
   refine ⟨encSg s, ⟨rfl, rfl, by omega, by rw [Int.toNat_natCast, List.getElem?_map, hs]; rfl⟩, ?_⟩; conv => whnf
   refine add_call (id := 1) (h := hb) (rb := rb) (B := B) (N := N) (R := R) (k := s.1) (mk := s.2.2) (t := s.2.1) rfl hNk o1 o2 (fun w' hw => hG.ext hw.fr) (fun w' hw => ringO_rr (hw.objs _ (look_mem (s := 0) rfl)) (fun b hb hm => hw.apart (i := 1) (j := 0) rfl rfl (by decide) b (mem_nub.2 hb) (mem_nub.2 hm))) ?_
   intro B4; conv => whnf
   repeat refine zq ?_
   refine zr ?_; conv => whnf
   refine ⟨⟨by omega, by omega⟩, ?_⟩; conv => whnf
   refine At.nextH fun w' hw => ⟨(k + 1, B4), by simp only; omega, by simp only; omega, Le.of rfl rfl ⟨rfl, rfl, rfl, trivial⟩, hw.keep [2, 1, 0] (by simp only [hsn]; rfl) rfl rfl, ⟨⟨_, _, _, rfl⟩, trivial⟩, ⟨(nopSg _).okH, trivial⟩⟩
  ·have hge : k = S.length := by have := of_decide_eq_false hc; simp only [List.length_map] at this; omega
   subst hge
   rw [List.take_length]
   repeat refine zq ?_
   refine zr ?_; conv => whnf
   repeat refine zq ?_
   refine At.ret (At.doneB tab_ok hB _ rfl fun w' hw => ?_)
   rw [hpl]
   have o1 := hw.objs _ (look_mem (s := 1) rfl)
   have o0 := hw.objs _ (look_mem (s := 0) rfl)
   refine ⟨(vs, hb, rb, B, BR), rfl, ⟨fun b hb' => ?_, fun w'' ha => ⟨o1.2 w'' fun b hb' => ha b (List.mem_append.2 (.inl hb')), o0.2 w'' fun b hb' => ha b (List.mem_append.2 (.inr hb'))⟩⟩, fun b hb' => ?_, hw.fr⟩
   ·rcases List.mem_append.1 hb' with hb' | hb'
    ·exact o1.1 b hb'
    ·exact o0.1 b hb'
   ·rcases List.mem_append.1 hb' with hb' | hb'
    ·exact (hw.fresh (id := 1) rfl b (mem_nub.2 hb')).elim (fun h => by cases h) _root_.id
    ·exact (hw.fresh (id := 0) rfl b (mem_nub.2 hb')).elim (fun h => by cases h) _root_.id
end Go.Proofs.YtdigebokbhmfaaaGreatDoor.Ap
namespace Go.Proofs.YtdigebokbhmfaaaGreatDoor.Ap
open Go.Vc Rt Go.Bs
set_option maxHeartbeats 1000000
theorem um306 : Tryz.prog.underlying 306 = some (.map 3 309) := by kernel_rfl
@[reducible] def encStt (k v : Value) : List CV := [.i 0, .x k, .x (.slice none 0 0), .x (.slice none 0 0), .x v]
@[reducible] def vStt (k v : Value) : Value := .agg #[.int .i64 0, k, .slice none 0 0, .slice none 0 0, v]
@[reducible] def encRun (p : Value × Value × Value × Int × Int × Nat) : List CV := [.i 0, .x p.1, .x (.slice none 0 0), .x (.slice none 0 0), .x p.2.1, .x p.2.2.1, .i p.2.2.2.1, .i p.2.2.2.2.1, .x (ptr p.2.2.2.2.2)]
def runT : Ty (Value × Value × Value × Int × Int × Nat) := flat 9 encRun (fun _ => rfl)
abbrev RunP := Value × Value × Value × Int × Int × Nat
theorem indexCirc_nil (f : Value) (w : World) : Ans Tryz.prog 387 [.slice none 0 0, f] (.i (-1)) w := by
 refine calls_e [.x (.slice none 0 0), .x f] Tryz.func387 rfl rfl (Nat.le_of_ble_eq_true rfl) trivial fun B hB => ?_
 repeat refine zq ?_
 refine zr ?_; conv => whnf
 repeat refine zq ?_
 refine zr ?_; conv => whnf
 refine ⟨nilSl, ?_⟩; conv => whnf
 repeat refine zq ?_
 refine At.block ?_
 refine At.loopH (fun u : Nat => { N := Tryz.f387.ntmps, sl := [(7, some (.i 0)), (8, some (.i 0))], gl := [], hp := [], S := [], ws := w }) (fun u : Nat => True) (fun u : Nat => 0)
  (fun w' hw => ⟨0, trivial, Le.of rfl rfl ⟨rfl, rfl, trivial⟩, hw.same rfl rfl rfl, trivial, trivial⟩) ?_
 intro u _
 repeat refine zq ?_
 refine zr ?_; conv => whnf
 repeat refine zq ?_
 refine At.cond rfl (fun hq => ?_) (fun _ => At.exit ?_)
 ·exact absurd (of_decide_eq_true hq) (by decide)
 repeat refine zq ?_
 refine zr ?_; conv => whnf
 repeat refine zq ?_
 refine At.ret (At.doneB tab_ok hB _ rfl fun w' hw => ⟨rfl, hw.fr⟩)
theorem find_nil (br : Nat) (p : RunP) (f : Value) (w : World) (hr : SlOf runT [] w (hs br) [p]) : Ans Tryz.prog 312 [ptr br, f] (.i (-1)) w := by
 refine calls_e [.s (.c (.e (hs br) 9 0 0)), .x f] Tryz.func312 rfl rfl (Nat.le_of_ble_eq_true rfl) ⟨⟨_, _, _, rfl⟩, trivial⟩ fun B hB => ?_
 repeat refine zq ?_
 refine zr ?_; conv => whnf
 repeat refine zq ?_
 refine zr ?_; conv => whnf
 refine ⟨[.x (.slice none 0 0)], fun w' hw => hr.load (n := 1) (i := 0) (off := 2) hw.fr rfl rfl, ?_⟩; conv => whnf
 refine ans_call (r := .i (-1)) b387 rfl (fun w' _ => indexCirc_nil f w') ?_; conv => whnf
 repeat refine zq ?_
 refine At.ret (At.doneB tab_ok hB _ rfl fun w' hw => ⟨rfl, hw.fr⟩)
theorem named_nil (br : Nat) (p : RunP) (id : Int) (w : World) (hr : SlOf runT [] w (hs br) [p]) : Ans Tryz.prog 261 [ptr br, vI id] (.tup [.c (.i (-1)), .c (.i 4)]) w := by
 refine calls_e [.x (ptr br), .i id] Tryz.func261 rfl rfl (Nat.le_of_ble_eq_true rfl) trivial fun B hB => ?_
 repeat refine zq ?_
 refine zr ?_; conv => whnf
 intro b3; conv => whnf
 repeat refine zq ?_
 refine zr ?_; conv => whnf
 refine ans_call (r := .i (-1)) b312 rfl (fun w' hw => find_nil br p _ w' (hr.ext hw.fr)) ?_; conv => whnf
 repeat refine zq ?_
 refine zr ?_; conv => whnf
 repeat refine zq ?_
 refine At.cond (t := true) rfl (fun _ => ?_) (fun hq => by cases hq)
 repeat refine zq ?_
 refine zr ?_; conv => whnf
 repeat refine zq ?_
 refine At.ret (At.doneB tab_ok hB _ rfl fun w' hw => ⟨rfl, hw.fr⟩)
theorem where_join (br : Nat) (p : RunP) (e : En) (k y s : Value) (w : World) (hr : SlOf runT [] w (hs br) [p]) (he : EnIn [] w e k y s) (hk : e.kind = 1) : Ans Tryz.prog 232 [ptr br, vE e k y s] (.tup [.c (.i (-1)), .c (.i 4)]) w := by
 refine calls_e [.x (ptr br), .s (.agg [.i e.author, .i e.seq, .i e.day, .x k, .i 1, .i e.circle, .i e.who, .i e.n, .i e.m, .i e.ref, .x y, .x s, .s e.text])] Tryz.func232 rfl (by show [ptr br, vE e k y s].toArray = _; unfold vE; rw [hk]; rfl) (Nat.le_of_ble_eq_true rfl) trivial fun B hB => ?_
 repeat refine zq ?_
 refine zr ?_; conv => whnf
 refine ⟨he.k.one, ?_⟩; conv => whnf
 refine ⟨he.y.one, ?_⟩; conv => whnf
 refine ⟨he.s.one, ?_⟩; conv => whnf
 intro b3; conv => whnf
 repeat refine zq ?_
 refine zr ?_; conv => whnf
 repeat refine zq ?_
 refine zr ?_; conv => whnf
 repeat refine zq ?_
 refine At.block ?_
 repeat refine zq ?_
 refine zr ?_; conv => whnf
 repeat refine zq ?_
 refine At.cond (t := false) rfl (fun hq => by cases hq) (fun _ => ?_)
 repeat refine zq ?_
 refine zr ?_; conv => whnf
 repeat refine zq ?_
 refine At.cond (t := false) rfl (fun hq => by cases hq) (fun _ => ?_)
 repeat refine zq ?_
 refine zr ?_; conv => whnf
 repeat refine zq ?_
 refine At.cond (t := false) rfl (fun hq => by cases hq) (fun _ => ?_)
 repeat refine zq ?_
 refine zr ?_; conv => whnf
 repeat refine zq ?_
 refine At.cond (t := false) rfl (fun hq => by cases hq) (fun _ => ?_)
 repeat refine zq ?_
 refine zr ?_; conv => whnf
 repeat refine zq ?_
 refine At.cond (t := false) rfl (fun hq => by cases hq) (fun _ => ?_)
 repeat refine zq ?_
 refine zr ?_; conv => whnf
 repeat refine zq ?_
 refine At.cond (t := false) rfl (fun hq => by cases hq) (fun _ => ?_)
 repeat refine zq ?_
 refine zr ?_; conv => whnf
 repeat refine zq ?_
 refine At.cond (t := false) rfl (fun hq => by cases hq) (fun _ => ?_)
 repeat refine zq ?_
 refine zr ?_; conv => whnf
 repeat refine zq ?_
 refine At.cond (t := false) rfl (fun hq => by cases hq) (fun _ => ?_)
 repeat refine zq ?_
 refine zr ?_; conv => whnf
 repeat refine zq ?_
 refine At.cond (t := false) rfl (fun hq => by cases hq) (fun _ => ?_)
 repeat refine zq ?_
 refine zr ?_; conv => whnf
 refine ans_call (r := .tup [.c (.i (-1)), .c (.i 4)]) b261 rfl (fun w' hw => named_nil br p _ w' (hr.ext hw.fr)) ?_; conv => whnf
 repeat refine zq ?_
 refine At.ret (At.doneB tab_ok hB _ rfl fun w' hw => ⟨rfl, hw.fr⟩)
theorem later_join (br : Nat) (p : RunP) (e : En) (mk : Int) (k y s : Value) (w : World) (hr : SlOf runT [] w (hs br) [p]) (he : EnIn [] w e k y s) (hk : e.kind = 1) : Ans Tryz.prog 172 [ptr br, vE e k y s, vI mk] (.tup [.c (.i (-1)), .c (.i 4)]) w := by
 refine calls_e [.x (ptr br), .s (.agg (encE e k y s)), .i mk] Tryz.func172 rfl rfl (Nat.le_of_ble_eq_true rfl) trivial fun B hB => ?_
 repeat refine zq ?_
 refine zr ?_; conv => whnf
 refine ⟨he.k.one, ?_⟩; conv => whnf
 refine ⟨he.y.one, ?_⟩; conv => whnf
 refine ⟨he.s.one, ?_⟩; conv => whnf
 intro b4; conv => whnf
 repeat refine zq ?_
 refine zr ?_; conv => whnf
 refine rawE_make vI vId ?_
 intro m; conv => whnf
 refine rawE_insert (id := 1) (key := 0) (v := .func (.func 215) #[] #[]) kl3 ⟨_, rfl⟩ (fun p _ => ⟨p.1, rfl⟩) vI_inj um306 rfl rfl rfl rfl rfl rfl ?_; conv => whnf
 refine rawE_insert (id := 1) (key := 1) (v := .func (.func 216) #[] #[]) kl3 ⟨_, rfl⟩ (fun p _ => ⟨p.1, rfl⟩) vI_inj um306 rfl rfl rfl rfl rfl rfl ?_; conv => whnf
 refine rawE_insert (id := 1) (key := 2) (v := .func (.func 217) #[] #[]) kl3 ⟨_, rfl⟩ (fun p _ => ⟨p.1, rfl⟩) vI_inj um306 rfl rfl rfl rfl rfl rfl ?_; conv => whnf
 refine rawE_insert (id := 1) (key := 3) (v := .func (.func 218) #[] #[]) kl3 ⟨_, rfl⟩ (fun p _ => ⟨p.1, rfl⟩) vI_inj um306 rfl rfl rfl rfl rfl rfl ?_; conv => whnf
 refine rawE_insert (id := 1) (key := 4) (v := .func (.func 219) #[] #[]) kl3 ⟨_, rfl⟩ (fun p _ => ⟨p.1, rfl⟩) vI_inj um306 rfl rfl rfl rfl rfl rfl ?_; conv => whnf
 refine rawE_insert (id := 1) (key := 5) (v := .func (.func 220) #[] #[]) kl3 ⟨_, rfl⟩ (fun p _ => ⟨p.1, rfl⟩) vI_inj um306 rfl rfl rfl rfl rfl rfl ?_; conv => whnf
 refine rawE_insert (id := 1) (key := 6) (v := .func (.func 220) #[] #[]) kl3 ⟨_, rfl⟩ (fun p _ => ⟨p.1, rfl⟩) vI_inj um306 rfl rfl rfl rfl rfl rfl ?_; conv => whnf
 refine rawE_insert (id := 1) (key := 7) (v := .func (.func 221) #[] #[]) kl3 ⟨_, rfl⟩ (fun p _ => ⟨p.1, rfl⟩) vI_inj um306 rfl rfl rfl rfl rfl rfl ?_; conv => whnf
 refine rawE_insert (id := 1) (key := 8) (v := .func (.func 222) #[] #[]) kl3 ⟨_, rfl⟩ (fun p _ => ⟨p.1, rfl⟩) vI_inj um306 rfl rfl rfl rfl rfl rfl ?_; conv => whnf
 refine rawE_insert (id := 1) (key := 9) (v := .func (.func 223) #[] #[]) kl3 ⟨_, rfl⟩ (fun p _ => ⟨p.1, rfl⟩) vI_inj um306 rfl rfl rfl rfl rfl rfl ?_; conv => whnf
 refine rawE_insert (id := 1) (key := 10) (v := .func (.func 224) #[] #[]) kl3 ⟨_, rfl⟩ (fun p _ => ⟨p.1, rfl⟩) vI_inj um306 rfl rfl rfl rfl rfl rfl ?_; conv => whnf
 refine rawE_insert (id := 1) (key := 11) (v := .func (.func 225) #[] #[]) kl3 ⟨_, rfl⟩ (fun p _ => ⟨p.1, rfl⟩) vI_inj um306 rfl rfl rfl rfl rfl rfl ?_; conv => whnf
 refine rawE_insert (id := 1) (key := 13) (v := .func (.func 226) #[] #[]) kl3 ⟨_, rfl⟩ (fun p _ => ⟨p.1, rfl⟩) vI_inj um306 rfl rfl rfl rfl rfl rfl ?_; conv => whnf
 refine rawE_insert (id := 1) (key := 12) (v := .func (.func 227) #[] #[]) kl3 ⟨_, rfl⟩ (fun p _ => ⟨p.1, rfl⟩) vI_inj um306 rfl rfl rfl rfl rfl rfl ?_; conv => whnf
 refine rawE_insert (id := 1) (key := 14) (v := .func (.func 228) #[] #[]) kl3 ⟨_, rfl⟩ (fun p _ => ⟨p.1, rfl⟩) vI_inj um306 rfl rfl rfl rfl rfl rfl ?_; conv => whnf
 refine rawE_insert (id := 1) (key := 15) (v := .func (.func 229) #[] #[]) kl3 ⟨_, rfl⟩ (fun p _ => ⟨p.1, rfl⟩) vI_inj um306 rfl rfl rfl rfl rfl rfl ?_; conv => whnf
 refine rawE_insert (id := 1) (key := 16) (v := .func (.func 230) #[] #[]) kl3 ⟨_, rfl⟩ (fun p _ => ⟨p.1, rfl⟩) vI_inj um306 rfl rfl rfl rfl rfl rfl ?_; conv => whnf
 refine rawE_insert (id := 1) (key := 17) (v := .func (.func 231) #[] #[]) kl3 ⟨_, rfl⟩ (fun p _ => ⟨p.1, rfl⟩) vI_inj um306 rfl rfl rfl rfl rfl rfl ?_; conv => whnf
 repeat refine zq ?_
 refine zr ?_; conv => whnf
 refine ans_call (r := .tup [.c (.i (-1)), .c (.i 4)]) b232 rfl (fun w' hw => where_join br p e k y s w' (hr.ext hw.fr) (he.fr hw.fr) hk) ?_; conv => whnf
 repeat refine zq ?_
 refine zr ?_; conv => whnf
 repeat refine zq ?_
 refine At.cond (t := true) rfl (fun _ => ?_) (fun hq => by cases hq)
 repeat refine zq ?_
 refine zr ?_; conv => whnf
 repeat refine zq ?_
 refine At.ret (At.doneB tab_ok hB _ rfl fun w' hw => ⟨rfl, hw.fr⟩)
def errJ (ks : List Int) (a : Int) : Int := if hasI ks a then 4 else 18
theorem fails_join (br : Nat) (p : RunP) (ks : List Int) (e : En) (mk : Int) (k y s : Value) (w : World) (hr : SlOf runT [] w (hs br) [p]) (hks : SlOf intT [] w p.1 ks) (he : EnIn [] w e k y s) (hk : e.kind = 1) : Ans Tryz.prog 134 [ptr br, vE e k y s, vI mk] (.tup [.c (.i (-1)), .c (.i (errJ ks e.author))]) w := by
 refine calls_e [.s (.c (.e (hs br) 9 0 0)), .s (.agg (encE e k y s)), .i mk] Tryz.func134 rfl rfl (Nat.le_of_ble_eq_true rfl) ⟨⟨_, _, _, rfl⟩, trivial⟩ fun B hB => ?_
 repeat refine zq ?_
 refine zr ?_; conv => whnf
 refine ⟨he.k.one, ?_⟩; conv => whnf
 refine ⟨he.y.one, ?_⟩; conv => whnf
 refine ⟨he.s.one, ?_⟩; conv => whnf
 intro b4; conv => whnf
 repeat refine zq ?_
 refine At.planG tab_ok mixed [(0, LO.box b4 40 (encE e k y s))] (.take 0 (.take 1 (.take 2 (.take 3 (.take 4 (.take 5 (.take 6 (.br 7 (.take 8 (.done)) (.nob))))))))) (by kernel_rfl) (by kernel_rfl) ⟨rfl, trivial⟩ ?_; conv => whnf
 refine ⟨[.x p.1], fun w' hw => hr.load (n := 1) (i := 0) (off := 1) hw rfl rfl, ?_⟩; conv => whnf
 refine ⟨?_, trivial⟩; conv => whnf
 refine ans_call (r := .b (hasI ks e.author)) b52 rfl (fun w' hw => contains_c ks e.author [] p.1 w' (hks.fr hw.fr)) ?_; conv => whnf
 refine ⟨⟨⟨rfl, trivial⟩, fun w' hw => hw.fr⟩, ?_⟩; conv => whnf
 repeat refine zq ?_
 refine At.cond rfl (fun hq => ?_) (fun hq => At.skip ?_)
 ·have hh : hasI ks e.author = false := by simpa using hq
  repeat refine zq ?_
  refine zr ?_; conv => whnf
  repeat refine zq ?_
  refine At.ret (At.doneB tab_ok hB _ rfl fun w' hw => ⟨?_, hw.fr⟩)
  unfold errJ; rw [hh]; rfl
 ·have hh : hasI ks e.author = true := by simpa using hq
  repeat refine zq ?_
  refine zr ?_; conv => whnf
  refine ans_call (r := .tup [.c (.i (-1)), .c (.i 4)]) b172 rfl (fun w' hw => later_join br p e mk k y s w' (hr.ext hw.fr) (he.fr hw.fr) hk) ?_; conv => whnf
  repeat refine zq ?_
  refine At.ret (At.doneB tab_ok hB _ rfl fun w' hw => ⟨?_, hw.fr⟩)
  unfold errJ; rw [hh]; rfl
end Go.Proofs.YtdigebokbhmfaaaGreatDoor.Ap
