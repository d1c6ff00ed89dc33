/- Texts that the law leans on. -/
import Derived.Test.YtdigebokbhmfaaaGreatDoorU30
import Derived.Test.YtdigebokbhmfaaaGreatDoorU29
import Derived.Test.YtdigebokbhmfaaaGreatDoorU18
import Derived.Deep.Slices
import Derived.ProofKit
import Derived.OpenShut
import Derived.ChangeSame
import Derived.Carry
import Derived.Test.YtdigebokbhmfaaaGreatDoorRows
import Derived.LaidMore
import Derived.MakeChecks
import Derived.Lib.LaidTab
import Derived.ChangeArms
set_option linter.unusedVariables false
set_option linter.unusedSimpArgs false
namespace Go.Proofs.YtdigebokbhmfaaaGreatDoor.Ap
open Go.Vc Rt Go.Bs
set_option maxHeartbeats 2000000
theorem meet_fin {n d : Nat} {S : Vil} (h : VI n d S) {a c : Nat} {Na Nc M1 M2 : List Nd} (ha : S.H[a]? = some Na) (hc : S.H[c]? = some Nc) (hg1 : GN S.R M1) (hg2 : GN S.R M2) (hm1 : ∀ m, m ∈ mksN M1 ↔ m ∈ mksN Na ∨ m ∈ mksN Nc) (hm2 : ∀ m, m ∈ mksN M2 ↔ m ∈ mksN Na ∨ m ∈ mksN Nc) :
  VI n (d + 1) { S with H := (S.H.set a M1).set c M2, met := (S.met ++ if S.back = (a : Int) then [(c : Int)] else []) ++ if S.back = (c : Int) then [(a : Int)] else [] } := by
 have hal := (List.getElem?_eq_some_iff.1 ha).1
 have hcl := (List.getElem?_eq_some_iff.1 hc).1
 refine h.meet ha hc (by simp [h.hn]) (fun N hN => ?_) (fun j h1 h2 => ?_) (fun j hj => ?_)
 ·obtain ⟨j, hj⟩ := List.getElem?_of_mem hN
  rcases set_get hj with ⟨_, rfl⟩ | ⟨_, hj⟩
  ·exact hg2
  ·rcases set_get hj with ⟨_, rfl⟩ | ⟨_, hj⟩
   ·exact hg1
   ·exact h.good N (List.mem_of_getElem? hj)
 ·rw [List.getElem?_set, if_neg (fun e => h2 e.symm), List.getElem?_set, if_neg (fun e => h1 e.symm)]
 ·by_cases e : c = j
  ·exact ⟨M2, by rw [List.getElem?_set, if_pos e, if_pos (by rw [List.length_set]; omega)], hm2⟩
  ·rcases hj with rfl | rfl
   ·exact ⟨M1, by rw [List.getElem?_set, if_neg e, List.getElem?_set, if_pos rfl, if_pos hal], hm1⟩
   ·exact absurd rfl e
theorem meet_mid {L : List Hi} {a c : Nat} {y z : Hi} {R : List SK} (hy : L[a]? = some y) (hz : L[c]? = some z) (hgz : GN R z.2.2) {B1 : List Nat} {M1 : List Nd} (hg1 : GN R M1) (hm1 : ∀ m, m ∈ mksN M1 ↔ m ∈ mksN y.2.2 ∨ m ∈ mksN z.2.2) :
  ∃ z' : Hi, (L.set a (y.1, B1, M1))[c]? = some z' ∧ z'.1 = z.1 ∧ GN R z'.2.2 ∧ ∀ m, (m ∈ mksN z'.2.2 ∨ m ∈ mksN M1) ↔ (m ∈ mksN y.2.2 ∨ m ∈ mksN z.2.2) := by
 have hal := (List.getElem?_eq_some_iff.1 hy).1
 by_cases e : a = c
 ·subst e
  rw [hy] at hz; cases hz
  exact ⟨(y.1, B1, M1), by rw [List.getElem?_set, if_pos rfl, if_pos hal], rfl, hg1, fun m => by simp only [hm1, or_self]⟩
 ·refine ⟨z, by rw [List.getElem?_set, if_neg e]; exact hz, rfl, hgz, fun m => ?_⟩
  rw [hm1]
  constructor
  ·rintro (q | q | q)
   ·exact .inr q
   ·exact .inl q
   ·exact .inr q
  ·rintro (q | q)
   ·exact .inr (.inl q)
   ·exact .inl q
theorem meet_v (b : Nat) (B : List Nat) (n d : Nat) (S : Vil) (h : VI n d S) (h4 : n ≤ 4) (hd : d ≤ 24) (a c : Nat) (ha : a < n) (hc : c < n) (w : World) (hG : Gl w) (H : (villO b B n S).holds w) (h8 : ∀ x ∈ B, 8 ≤ x) :
  Calls Tryz.prog 22 #[ptr b, vI a, vI c] w (fun e w' => ∃ S' B', e = .returned (.bool true) ∧ VI n (d + 1) S' ∧ (villO b B' n S').holds w' ∧ Fr (nub B) w w' ∧ ∀ x ∈ nub B', x ∈ nub B ∨ w.heap.size ≤ x) := by
 have hRo := h.rg (by omega)
 have hml := h.ml
 have hen := enter_objs (N := Tryz.f22.ntmps) (l := [.x (ptr b), .i a, .i c]) (hp := [(0, villO b B n S)]) (w := w) (fun o ho => by rw [List.mem_singleton.1 ho]; exact H) (by simp [villO, LO.blks, nub_nodup])
 have hS : ([(0, villO b B n S)].flatMap fun o => o.2.blks) = nub B := by simp [villO, LO.blks]
 rw [hS] at hen
 have hG' : ∀ {w'}, Fr (nub B) w w' → Gl w' := fun hf => hG.fr hf fun x hx => h8 x (mem_nub.1 hx)
 refine calls_atB [.x (ptr b), .i a, .i c] [(0, villO b B n S)] (nub B) Tryz.func22 rfl rfl (Nat.le_of_ble_eq_true rfl) (WF.objs hen trivial trivial) hen fun B0 hB => ?_
 repeat refine zq ?_
 refine zr ?_; conv => whnf
 repeat refine zq ?_
 refine At.reshapeH fun w' hw => ?_
 obtain ⟨rb, kv, hv, mv, BR, L, hL, hnd, hsub, hob⟩ := villO_at (hw.objs _ (look_mem (s := 0) rfl))
 refine ⟨{ N := Tryz.f22.ntmps, sl := [(0, some (.s (.c (.p 0 b 0)))), (1, some (.i a)), (2, some (.i c)), (6, some (.b false))], gl := [], hp := [(0, .box b 55 [.x (ptr rb), .o 1 kv, .i 0, .i 0, .o 2 hv, .i S.back, .o 3 mv]), (1, .row kv 3 1 ((rngI n).map encI)), (2, .row hv 27 1 (L.map fun y => [.x (ptr y.1)])), (3, .row mv 3 1 (S.met.map encI)), (4, ringO rb BR S.R), (5, famO rb L)], S := (nub B), ws := w }, Le.of rfl rfl ⟨rfl, rfl, rfl, rfl, trivial⟩, vill_open (rest := []) hw [0] rfl rfl hnd hsub hob rfl rfl, ⟨⟨_, _, rfl⟩, trivial⟩, ⟨fun c hc => by simp at hc; rcases hc with rfl | rfl | rfl | rfl | rfl | rfl | rfl <;> first | exact ⟨_, _, _, rfl⟩ | exact ⟨_, _, rfl⟩ | trivial, (nopI _).okH, (NoP.map (enc := fun y : Hi => [CV.x (ptr y.1)]) (fun _ => rfl) L).okH, (nopI _).okH, trivial⟩, ?_⟩
 have hLl : L.length = n := by rw [← h.hn, ← hL, List.length_map]
 obtain ⟨y, hy⟩ : ∃ y, L[a]? = some y := ⟨_, List.getElem?_eq_getElem (by omega)⟩
 obtain ⟨z, hz⟩ : ∃ z, L[c]? = some z := ⟨_, List.getElem?_eq_getElem (by omega)⟩
 have hNa : S.H[a]? = some y.2.2 := by rw [← hL, List.getElem?_map, hy]; rfl
 have hNc : S.H[c]? = some z.2.2 := by rw [← hL, List.getElem?_map, hz]; rfl
 have hgy := h.good _ (List.mem_of_getElem? hNa)
 have hgz := h.good _ (List.mem_of_getElem? hNc)
 repeat refine zq ?_
 refine zr ?_; conv => whnf
 repeat refine zq ?_
 refine At.join (fun p' : List Int × Value => { N := Tryz.f22.ntmps, sl := [(0, some (.s (.c (.p 0 b 0)))), (1, some (.i a)), (2, some (.i c)), (6, some (.b false))], gl := [], hp := [(0, .box b 55 [.x (ptr rb), .o 1 kv, .i 0, .i 0, .o 2 hv, .i S.back, .o 3 p'.2]), (1, .row kv 3 1 ((rngI n).map encI)), (2, .row hv 27 1 (L.map fun y => [.x (ptr y.1)])), (3, .row p'.2 3 1 (p'.1.map encI)), (4, ringO rb BR S.R), (5, famO rb L)], S := (nub B), ws := w }) (fun p' : List Int × Value => p'.1 = S.met ++ if S.back = (a : Int) then [(c : Int)] else []) ?_ ?_
 ·refine At.cond rfl (fun hq => ?_) (fun hq => At.skip ?_)
  ·have hba : S.back = (a : Int) := of_decide_eq_true hq
   repeat refine zq ?_
   refine zr ?_; conv => whnf
   intro v8; conv => whnf
   refine ⟨rfl, ?_⟩; conv => whnf
   refine ⟨⟨rfl, by simp; omega⟩, ?_⟩; conv => whnf
   intro v9; conv => whnf
   refine At.meet fun w' hw => ⟨(S.met ++ [(c : Int)], v9), by simp only; rw [if_pos hba], Le.of rfl rfl ⟨rfl, rfl, rfl, rfl, trivial⟩, hw.keep [0, 1, 2, 3, 4, 5] ?_ rfl rfl, ⟨⟨_, _, rfl⟩, trivial⟩, ⟨fun c hc => by simp at hc; rcases hc with rfl | rfl | rfl | rfl | rfl | rfl | rfl <;> first | exact ⟨_, _, _, rfl⟩ | exact ⟨_, _, rfl⟩ | trivial, (nopI _).okH, (NoP.map (enc := fun y : Hi => [CV.x (ptr y.1)]) (fun _ => rfl) L).okH, (nopI _).okH, trivial⟩⟩
   show [(0, LO.box _ _ _), (1, LO.row _ _ _ _), (2, LO.row _ _ _ _), (3, LO.row v9 3 1 _), (4, _), (5, _)] = [(0, LO.box _ _ _), (1, LO.row _ _ _ _), (2, LO.row _ _ _ _), (3, LO.row v9 3 1 _), (4, _), (5, _)]
   rw [List.map_append]
   rfl
  ·have hba : ¬ S.back = (a : Int) := of_decide_eq_false hq
   refine At.meet fun w' hw => ⟨(S.met, mv), by simp only; rw [if_neg hba, List.append_nil], Le.of rfl rfl ⟨rfl, rfl, rfl, rfl, trivial⟩, hw.keep [0, 1, 2, 3, 4, 5] rfl rfl rfl, ⟨⟨_, _, rfl⟩, trivial⟩, ⟨fun c hc => by simp at hc; rcases hc with rfl | rfl | rfl | rfl | rfl | rfl | rfl <;> first | exact ⟨_, _, _, rfl⟩ | exact ⟨_, _, rfl⟩ | trivial, (nopI _).okH, (NoP.map (enc := fun y : Hi => [CV.x (ptr y.1)]) (fun _ => rfl) L).okH, (nopI _).okH, trivial⟩⟩
 rintro ⟨mt, mw⟩ hmt
 simp only at hmt ⊢
 have hmtl : mt.length ≤ 2 * d + 1 := by rw [hmt, List.length_append]; split <;> simp <;> omega
 repeat refine zq ?_
 refine zr ?_; conv => whnf
 repeat refine zq ?_
 refine At.join (fun p' : List Int × Value => { N := Tryz.f22.ntmps, sl := [(0, some (.s (.c (.p 0 b 0)))), (1, some (.i a)), (2, some (.i c)), (6, some (.b false))], gl := [], hp := [(0, .box b 55 [.x (ptr rb), .o 1 kv, .i 0, .i 0, .o 2 hv, .i S.back, .o 3 p'.2]), (1, .row kv 3 1 ((rngI n).map encI)), (2, .row hv 27 1 (L.map fun y => [.x (ptr y.1)])), (3, .row p'.2 3 1 (p'.1.map encI)), (4, ringO rb BR S.R), (5, famO rb L)], S := (nub B), ws := w }) (fun p' : List Int × Value => p'.1 = mt ++ if S.back = (c : Int) then [(a : Int)] else []) ?_ ?_
 ·refine At.cond rfl (fun hq => ?_) (fun hq => At.skip ?_)
  ·have hba : S.back = (c : Int) := of_decide_eq_true hq
   repeat refine zq ?_
   refine zr ?_; conv => whnf
   intro v8; conv => whnf
   refine ⟨rfl, ?_⟩; conv => whnf
   refine ⟨⟨rfl, by simp; omega⟩, ?_⟩; conv => whnf
   intro v9; conv => whnf
   refine At.meet fun w' hw => ⟨(mt ++ [(a : Int)], v9), by simp only; rw [if_pos hba], Le.of rfl rfl ⟨rfl, rfl, rfl, rfl, trivial⟩, hw.keep [0, 1, 2, 3, 4, 5] ?_ rfl rfl, ⟨⟨_, _, rfl⟩, trivial⟩, ⟨fun c hc => by simp at hc; rcases hc with rfl | rfl | rfl | rfl | rfl | rfl | rfl <;> first | exact ⟨_, _, _, rfl⟩ | exact ⟨_, _, rfl⟩ | trivial, (nopI _).okH, (NoP.map (enc := fun y : Hi => [CV.x (ptr y.1)]) (fun _ => rfl) L).okH, (nopI _).okH, trivial⟩⟩
   show [(0, LO.box _ _ _), (1, LO.row _ _ _ _), (2, LO.row _ _ _ _), (3, LO.row v9 3 1 _), (4, _), (5, _)] = [(0, LO.box _ _ _), (1, LO.row _ _ _ _), (2, LO.row _ _ _ _), (3, LO.row v9 3 1 _), (4, _), (5, _)]
   rw [List.map_append]
   rfl
  ·have hba : ¬ S.back = (c : Int) := of_decide_eq_false hq
   refine At.meet fun w' hw => ⟨(mt, mw), by simp only; rw [if_neg hba, List.append_nil], Le.of rfl rfl ⟨rfl, rfl, rfl, rfl, trivial⟩, hw.keep [0, 1, 2, 3, 4, 5] rfl rfl rfl, ⟨⟨_, _, rfl⟩, trivial⟩, ⟨fun c hc => by simp at hc; rcases hc with rfl | rfl | rfl | rfl | rfl | rfl | rfl <;> first | exact ⟨_, _, _, rfl⟩ | exact ⟨_, _, rfl⟩ | trivial, (nopI _).okH, (NoP.map (enc := fun y : Hi => [CV.x (ptr y.1)]) (fun _ => rfl) L).okH, (nopI _).okH, trivial⟩⟩
 rintro ⟨mt2, mw2⟩ hmt2
 simp only at hmt2 ⊢
 have hRg : ∀ {st : St} {w' : World} {L' : List Hi}, Holds st w' → Vc.look st.hp 4 = some (ringO rb BR S.R) → Vc.look st.hp 5 = some (famO rb L') → RgR (L'.flatMap fun y => y.2.1) w' rb S.R := fun hw l4 l5 => ringO_rr (hw.objs _ (look_mem l4)) (fun x hx hm => hw.apart (i := 5) (j := 4) l5 l4 (by decide) x (mem_nub.2 hx) (mem_nub.2 hm))
 repeat refine zq ?_
 refine At.planG tab_ok mixed [(0, .box b 55 [.x (ptr rb), .o 1 kv, .i 0, .i 0, .o 2 hv, .i S.back, .o 3 mw2]), (2, .row hv 27 1 (L.map fun y => [.x (ptr y.1)]))] (.take 0 (.take 1 (.take 2 (.take 3 (.take 4 (.take 5 (.take 6 (.take 7 (.take 8 (.take 9 (.take 10 (.take 11 (.take 12 (.take 13 (.br 14 (.take 15 (.take 16 (.take 17 (.take 18 (.take 19 (.take 20 (.take 21 (.take 22 (.take 23 (.take 24 (.take 25 (.take 26 (.take 27 (.take 28 (.take 29 (.take 30 (.br 31 (.take 32 (.take 33 (.take 34 (.done)))) (.nob)))))))))))))))))) (.nob)))))))))))))))) (by kernel_rfl) (by kernel_rfl) ⟨rfl, rfl, trivial⟩ ?_; conv => whnf
 refine ⟨rfl, ?_⟩; conv => whnf
 refine ⟨by omega, ?_⟩; conv => whnf
 refine ⟨by simp only [List.length_map]; omega, ?_⟩; conv => whnf
 refine ⟨[.x (ptr y.1)], ⟨rfl, rfl, by omega, by rw [Int.toNat_natCast, List.getElem?_map, hy]; rfl⟩, ?_⟩; conv => whnf
 refine ⟨rfl, ?_⟩; conv => whnf
 refine ⟨by omega, ?_⟩; conv => whnf
 refine ⟨by simp only [List.length_map]; omega, ?_⟩; conv => whnf
 refine ⟨[.x (ptr z.1)], ⟨rfl, rfl, by omega, by rw [Int.toNat_natCast, List.getElem?_map, hz]; rfl⟩, ?_⟩; conv => whnf
 refine ⟨?_, trivial⟩; conv => whnf
 refine fam_join (id := 5) (rb := rb) (L := L) (i := a) (j := c) (y := y) (z := z) (R := S.R) rfl hy hz hRo hgy hgz (fun w' hw => hG' hw.fr) (fun w' hw => hRg hw rfl rfl) ?_
 intro B1 M1 hg1 hm1
 obtain ⟨z', hz', hz1, hgz', hmz⟩ := meet_mid (B1 := B1) hy hz hgz hg1 hm1
 have hself : (L.set a (y.1, B1, M1))[a]? = some (y.1, B1, M1) := by rw [List.getElem?_set, if_pos rfl, if_pos (by omega)]
 conv => whnf
 refine ⟨⟨⟨rfl, rfl, trivial⟩, fun w' hw => hw.fr⟩, ?_⟩; conv => whnf
 refine ⟨rfl, ?_⟩; conv => whnf
 refine ⟨by omega, ?_⟩; conv => whnf
 refine ⟨by simp only [List.length_map]; omega, ?_⟩; conv => whnf
 refine ⟨[.x (ptr z'.1)], ⟨rfl, rfl, by omega, by rw [Int.toNat_natCast, List.getElem?_map, hz, hz1]; rfl⟩, ?_⟩; conv => whnf
 refine ⟨rfl, ?_⟩; conv => whnf
 refine ⟨by omega, ?_⟩; conv => whnf
 refine ⟨by simp only [List.length_map]; omega, ?_⟩; conv => whnf
 refine ⟨[.x (ptr y.1)], ⟨rfl, rfl, by omega, by rw [Int.toNat_natCast, List.getElem?_map, hy]; rfl⟩, ?_⟩; conv => whnf
 refine ⟨?_, trivial⟩; conv => whnf
 refine fam_join (id := 5) (rb := rb) (L := L.set a (y.1, B1, M1)) (i := c) (j := a) (y := z') (z := (y.1, B1, M1)) (R := S.R) rfl hz' hself hRo hgz' hg1 (fun w' hw => hG' hw.fr) (fun w' hw => hRg hw rfl rfl) ?_
 intro B2 M2 hg2 hm2; conv => whnf
 refine ⟨⟨⟨rfl, rfl, trivial⟩, fun w' hw => hw.fr⟩, ?_⟩; conv => whnf
 repeat refine zq ?_
 refine At.ret (At.doneB tab_ok hB _ rfl fun w' hw => ?_)
 have hVI := meet_fin h hNa hNc hg1 hg2 hm1 (fun m => (hm2 m).trans (hmz m))
 rw [← hmt, ← hmt2] at hVI
 obtain ⟨B', q1, q2, q3⟩ := vill_close (S := { S with H := (S.H.set a M1).set c M2, met := mt2 }) (L := (L.set a (y.1, B1, M1)).set c (z'.1, B2, M2)) hw (by rw [vObjs, ptrs_set hz', ptrs_set hy]; rfl) (by rw [nds_set, nds_set, hL]) rfl rfl
 exact ⟨_, B', rfl, hVI, q1, q2, q3⟩
end Go.Proofs.YtdigebokbhmfaaaGreatDoor.Ap
namespace Go.Proofs.YtdigebokbhmfaaaGreatDoor.Ap
open Go.Vc Rt Go.Bs
set_option maxHeartbeats 1000000
def pickB (x b : Int) : Int := (x.tmod b + b).tmod b
theorem pick_bd {x b : Int} (hb : 0 < b) : 0 ≤ pickB x b ∧ pickB x b < b := by
 unfold pickB
 have h1 := Int.lt_tmod_of_pos x hb
 have h2 : 0 ≤ x.tmod b + b := by omega
 exact ⟨Int.tmod_nonneg _ h2, Int.tmod_lt_of_pos _ hb⟩
theorem run_rem {P : Program} {t : TypeId} {a b : Int} (hb : b ≠ 0) (w : World) : (binOp .rem t (vI a) (vI b)).run P w = .ok (vI (a.tmod b)) w := by
 simp [binOp, Op.intDiv, hb]
theorem pick_c (x b : Int) (hb : 0 < b ∧ b ≤ 1000) (w : World) : Ans Tryz.prog 20 [vI x, vI b] (.i (pickB x b)) w := by
 have h1 := Int.lt_tmod_of_pos x hb.1
 have h2 := Int.tmod_lt_of_pos x hb.1
 refine calls_plainB [.x (vI x), .i b] Tryz.func20 rfl rfl (Nat.le_of_ble_eq_true rfl) rfl fun B hB => ?_
 repeat refine zq ?_
 refine zr ?_; conv => whnf
 repeat refine zq ?_
 refine zr ?_; conv => whnf
 refine ⟨.i (x.tmod b), gimp_of (rawQ_bin rfl rfl rfl rfl (fun w => run_rem (by omega) w)), ?_⟩; conv => whnf
 refine ⟨⟨by omega, by omega⟩, ?_⟩; conv => whnf
 refine ⟨(show 0 ≤ x.tmod b + b by omega), ?_⟩; conv => whnf
 refine ⟨hb.1, ?_⟩; conv => whnf
 have e : (x.tmod b + b) % b = pickB x b := by
  exact (Int.tmod_eq_emod_of_nonneg (a := x.tmod b + b) (by omega)).symm
 repeat refine zq ?_
 refine At.ret (At.doneB tab_ok hB _ rfl fun w' hw => ⟨by rw [← e], hw.fr⟩)
theorem vill_shut {st st' : St} {w : World} {b n : Nat} {S : Vil} {rb : Nat} {kv hv mv : Value} {BR : List Nat} {L : List Hi} {rest : List LO} (hw : Holds st w) (ids : List Nat) (hk : (keepIds ids st.hp).map Prod.snd = vObjs b n S rb kv hv mv BR L ++ rest) (hL : L.map (fun y => y.2.2) = S.H)
  (h2 : st'.hp.map Prod.snd = villO b ((vObjs b n S rb kv hv mv BR L).flatMap LO.blks) n S :: rest) (h3 : st'.S = st.S) (h4 : st'.ws = st.ws) : Holds st' w :=
 hw.recast ids (old := vObjs b n S rb kv hv mv BR L) (new := [villO b ((vObjs b n S rb kv hv mv BR L).flatMap LO.blks) n S]) (rest := rest) hk h2 (fun ho hn => ⟨fun o hom => by rw [List.mem_singleton.1 hom]; exact vill_of hL hn ho, by simpa using LO.blks_nodup _, fun c hc => by rw [List.flatMap_cons, List.flatMap_nil, List.append_nil] at hc; exact mem_nub.1 hc⟩) h3 h4
theorem fam_snoc {rb : Nat} {L : List Hi} {y : Hi} {w : World} (h : (famO rb L).holds w) (hy : (histO y.1 rb y.2.1 y.2.2).holds w) (hd : ∀ b ∈ y.2.1, b ∉ L.flatMap fun y => y.2.1) : (famO rb (L ++ [y])).holds w := by
 obtain ⟨h1, h2⟩ := famO_at h
 have hget : ∀ {i : Nat} {z : Hi}, (L ++ [y])[i]? = some z → (i < L.length ∧ L[i]? = some z) ∨ (i = L.length ∧ z = y) := fun {i z} hz => by
  rw [List.getElem?_append] at hz
  split at hz
  ·rename_i hl; exact .inl ⟨hl, hz⟩
  ·rename_i hl
   have := (List.getElem?_eq_some_iff.1 hz).1
   simp at this
   have hi : i = L.length := by omega
   subst hi
   simp at hz
   exact .inr ⟨rfl, hz.symm⟩
 refine famO_of ⟨fun i k p q hne hp hq b hb hb' => ?_, fun p hp => ?_⟩
 ·rcases hget hp with ⟨_, hp0⟩ | ⟨e1, e2⟩
  ·rcases hget hq with ⟨_, hq0⟩ | ⟨_, e4⟩
   ·exact h1 i k p q hne hp0 hq0 b hb hb'
   ·rw [e4] at hb'
    exact hd b hb' (List.mem_flatMap.2 ⟨p, List.mem_of_getElem? hp0, hb⟩)
  ·rcases hget hq with ⟨_, hq0⟩ | ⟨e3, _⟩
   ·rw [e2] at hb
    exact hd b hb (List.mem_flatMap.2 ⟨q, List.mem_of_getElem? hq0, hb'⟩)
   ·exact hne (e1.trans e3.symm)
 ·rcases List.mem_append.1 hp with hp | hp
  ·exact h2 p hp
  ·rw [List.mem_singleton.1 hp]; exact hy
theorem fam_put {rb : Nat} {L : List Hi} {j : Nat} {y : Hi} {w : World} (h : (famO rb L).holds w) (hy : (histO y.1 rb y.2.1 y.2.2).holds w) (hd : ∀ b ∈ y.2.1, b ∉ L.flatMap fun y => y.2.1) : (famO rb (L.set j y)).holds w := by
 obtain ⟨h1, h2⟩ := famO_at h
 refine famO_of ⟨fun i k p q hne hp hq b hb hb' => ?_, fun p hp => ?_⟩
 ·rcases set_get hp with ⟨e1, e2⟩ | ⟨_, hp0⟩
  ·rcases set_get hq with ⟨e3, _⟩ | ⟨_, hq0⟩
   ·exact hne (e1.trans e3.symm)
   ·rw [e2] at hb
    exact hd b hb (List.mem_flatMap.2 ⟨q, List.mem_of_getElem? hq0, hb'⟩)
  ·rcases set_get hq with ⟨_, e4⟩ | ⟨_, hq0⟩
   ·rw [e4] at hb'
    exact hd b hb' (List.mem_flatMap.2 ⟨p, List.mem_of_getElem? hp0, hb⟩)
   ·exact h1 i k p q hne hp0 hq0 b hb hb'
 ·obtain ⟨i, hi⟩ := List.getElem?_of_mem hp
  rcases set_get hi with ⟨_, rfl⟩ | ⟨_, hi⟩
  ·exact hy
  ·exact h2 p (List.mem_of_getElem? hi)
theorem Holds.famIn {st st' : St} {w : World} {rb h : Nat} {B : List Nat} {N : List Nd} {L L' : List Hi} {pre : List LO} (hw : Holds st w) (ids : List Nat) (hk : (keepIds ids st.hp).map Prod.snd = histO h rb B N :: (pre ++ [famO rb L]))
  (h2 : st'.hp.map Prod.snd = pre ++ [famO rb L']) (hf : (famO rb L).holds w → (histO h rb B N).holds w → (∀ b ∈ B, b ∉ L.flatMap fun y => y.2.1) → (famO rb L').holds w) (hs : ∀ y ∈ L', y.2.1 = B ∨ y ∈ L) (h3 : st'.S = st.S) (h4 : st'.ws = st.ws) : Holds st' w :=
 hw.recast ids (old := histO h rb B N :: (pre ++ [famO rb L])) (new := pre ++ [famO rb L']) (rest := []) (by rw [hk, List.append_nil]) (by rw [h2, List.append_nil]) (fun ho hn => by
  have hb1 : ∀ L : List Hi, (famO rb L).blks = nub (L.flatMap fun y => y.2.1) := fun L => rfl
  have hb2 : (histO h rb B N).blks = nub B := rfl
  rw [List.flatMap_cons, List.flatMap_append, List.flatMap_cons, List.flatMap_nil, List.append_nil, hb1, hb2] at hn
  obtain ⟨n1, n2, n3⟩ := List.nodup_append.1 hn
  obtain ⟨n4, n5, n6⟩ := List.nodup_append.1 n2
  have hsub : ∀ b ∈ nub (L'.flatMap fun y => y.2.1), b ∈ nub B ∨ b ∈ nub (L.flatMap fun y => y.2.1) := fun b hb => by
   obtain ⟨y, hy, hb⟩ := List.mem_flatMap.1 (mem_nub.1 hb)
   rcases hs y hy with e | e
   ·rw [e] at hb; exact .inl (mem_nub.2 hb)
   ·exact .inr (mem_nub.2 (List.mem_flatMap.2 ⟨y, e, hb⟩))
  refine ⟨fun o hom => ?_, ?_, fun b hb => ?_⟩
  ·rcases List.mem_append.1 hom with hom | hom
   ·exact ho o (List.mem_cons_of_mem _ (List.mem_append.2 (.inl hom)))
   ·rw [List.mem_singleton.1 hom]
    exact hf (ho _ (by simp)) (ho _ (by simp)) fun b hb hb' => n3 b (mem_nub.2 hb) b (List.mem_append.2 (.inr (mem_nub.2 hb'))) rfl
  ·rw [List.flatMap_append, List.flatMap_cons, List.flatMap_nil, List.append_nil, hb1]
   refine List.nodup_append.2 ⟨n4, nub_nodup _, fun x hx y hy e => ?_⟩
   subst e
   rcases hsub x hy with q | q
   ·exact n3 x q x (List.mem_append.2 (.inl hx)) rfl
   ·exact n6 x hx x q rfl
  ·rw [List.flatMap_append, List.flatMap_cons, List.flatMap_nil, List.append_nil, hb1] at hb
   rw [List.flatMap_cons, List.flatMap_append, List.flatMap_cons, List.flatMap_nil, List.append_nil, hb1, hb2]
   rcases List.mem_append.1 hb with hb | hb
   ·exact List.mem_append.2 (.inr (List.mem_append.2 (.inl hb)))
   ·rcases hsub b hb with q | q
    ·exact List.mem_append.2 (.inl q)
    ·exact List.mem_append.2 (.inr (List.mem_append.2 (.inr q)))) h3 h4
theorem Holds.nilMid {st st' : St} {w : World} (hw : Holds st w) (ids : List Nat) {b : Nat} {T E size : Nat} {c c' : List CV} {o1 o2 o4 o5 : LO} (hk : (keepIds ids st.hp).map Prod.snd = [.box b T c, o1, o2, o4, o5]) (h2 : st'.hp.map Prod.snd = [.box b T c', o1, o2, .row (.slice none 0 0) E size [], o4, o5]) (h3 : st'.S = st.S) (h4 : st'.ws = st.ws) (e : dens c' = dens c) : Holds st' w :=
 hw.recast ids (old := [.box b T c, o1, o2, o4, o5]) (new := [.box b T c', o1, o2, .row (.slice none 0 0) E size [], o4, o5]) (rest := []) (by rw [hk]; rfl) (by rw [h2]; rfl) (fun ho hn => by
  have eb : ([LO.box b T c', o1, o2, .row (.slice none 0 0) E size [], o4, o5] : List LO).flatMap LO.blks = ([LO.box b T c, o1, o2, o4, o5] : List LO).flatMap LO.blks := by simp [LO.blks, blkOf]
  refine ⟨fun o hom => ?_, by rw [eb]; exact hn, fun x hx => by rw [eb] at hx; exact hx⟩
  simp only [List.mem_cons, List.not_mem_nil, or_false] at hom
  rcases hom with rfl | rfl | rfl | rfl | rfl | rfl
  ·have := ho (.box b T c) (by simp)
   show w.heap[b]? = some (.cells (dens c').toArray T (0, 0))
   rw [e]; exact this
  ·exact ho _ (by simp)
  ·exact ho _ (by simp)
  ·exact nil_holds
  ·exact ho _ (by simp)
  ·exact ho _ (by simp)) h3 h4
theorem start_objs {b rb : Nat} {BR : List Nat} {w : World} {c : List CV} (hr : (ringO rb BR []).holds w) (hb : (LO.box b 55 c).holds w) (hn : ([LO.box b 55 c, ringO rb BR []].flatMap LO.blks).Nodup) (e : dens c = dens [.x (ptr rb), .o 1 (.slice none 0 0), .i 0, .i 0, .o 2 (.slice none 0 0), .i (-1), .o 3 (.slice none 0 0)]) :
  (∀ o ∈ vObjs b 0 ⟨[], [], -1, []⟩ rb (.slice none 0 0) (.slice none 0 0) (.slice none 0 0) BR [], o.holds w) ∧ ((vObjs b 0 ⟨[], [], -1, []⟩ rb (.slice none 0 0) (.slice none 0 0) (.slice none 0 0) BR []).flatMap LO.blks).Nodup ∧
  ∀ x ∈ (vObjs b 0 ⟨[], [], -1, []⟩ rb (.slice none 0 0) (.slice none 0 0) (.slice none 0 0) BR []).flatMap LO.blks, x ∈ [LO.box b 55 c, ringO rb BR []].flatMap LO.blks := by
 have eb : (vObjs b 0 ⟨[], [], -1, []⟩ rb (.slice none 0 0) (.slice none 0 0) (.slice none 0 0) BR []).flatMap LO.blks = b :: nub BR := by simp [vObjs, LO.blks, blkOf, ringO, famO, nub]
 have eo : [LO.box b 55 c, ringO rb BR []].flatMap LO.blks = b :: nub BR := by simp [LO.blks, ringO]
 rw [eo] at hn ⊢
 rw [eb]
 refine ⟨fun o hom => ?_, hn, fun x hx => hx⟩
 ·simp only [vObjs, List.mem_cons, List.not_mem_nil, or_false] at hom
  rcases hom with rfl | rfl | rfl | rfl | rfl | rfl
  ·show w.heap[b]? = some (.cells _ 55 (0, 0))
   rw [← e]; exact hb
  ·exact nil_holds
  ·exact nil_holds
  ·exact nil_holds
  ·exact hr
  ·exact famO_of ⟨fun i k y z _ h => by simp at h, fun y hy => by cases hy⟩
theorem write_call {st : St} {d' : Option Nat} {K : St → Prop} {id b n d a : Nat} {B : List Nat} {S : Vil} (hl : Vc.look st.hp id = some (villO b B n S)) (h : VI n d S) (h0 : 1 ≤ n) (h4 : n ≤ 4) (hd : d ≤ 24) (ha : a < n) (hG : ∀ w, Holds st w → Gl w ∧ ∀ c ∈ B, 8 ≤ c)
  (hK : ∀ B' S', VI n (d + 1) S' → hpSetK st.hp id (villO b B' n S') (fun hp => st.withHp hp (fun st' => goPut st' d' (.b true) K))) : UCall Tryz.prog st 21 [ptr b, vI a, vI d] d' K :=
 obj_call (id := id) (o := villO b B n S) b21 hl (fun r o' => r = .b true ∧ ∃ B' S', o' = villO b B' n S' ∧ VI n (d + 1) S')
  (fun w hw => (write_v b B n d S h h0 h4 hd a ha w (hG w hw).1 (hw.objs _ (look_mem hl)) (hG w hw).2).mono fun e w' ⟨S', B', he, hv, ho, hf, hn⟩ => ⟨.b true, villO b B' n S', he, ⟨rfl, B', S', rfl, hv⟩, ho, hf, hn⟩)
  (fun r o' ⟨hr, B', S', ho, hv⟩ => by
   subst hr; subst ho
   exact ⟨⟨fun b T cells e => (by unfold villO at e; cases e), trivial, trivial⟩, hK B' S' hv⟩)
theorem meet_call {st : St} {d' : Option Nat} {K : St → Prop} {id b n d a c : Nat} {B : List Nat} {S : Vil} (hl : Vc.look st.hp id = some (villO b B n S)) (h : VI n d S) (h4 : n ≤ 4) (hd : d ≤ 24) (ha : a < n) (hc : c < n) (hG : ∀ w, Holds st w → Gl w ∧ ∀ c ∈ B, 8 ≤ c)
  (hK : ∀ B' S', VI n (d + 1) S' → hpSetK st.hp id (villO b B' n S') (fun hp => st.withHp hp (fun st' => goPut st' d' (.b true) K))) : UCall Tryz.prog st 22 [ptr b, vI a, vI c] d' K :=
 obj_call (id := id) (o := villO b B n S) b22 hl (fun r o' => r = .b true ∧ ∃ B' S', o' = villO b B' n S' ∧ VI n (d + 1) S')
  (fun w hw => (meet_v b B n d S h h4 hd a c ha hc w (hG w hw).1 (hw.objs _ (look_mem hl)) (hG w hw).2).mono fun e w' ⟨S', B', he, hv, ho, hf, hn⟩ => ⟨.b true, villO b B' n S', he, ⟨rfl, B', S', rfl, hv⟩, ho, hf, hn⟩)
  (fun r o' ⟨hr, B', S', ho, hv⟩ => by
   subst hr; subst ho
   exact ⟨⟨fun b T cells e => (by unfold villO at e; cases e), trivial, trivial⟩, hK B' S' hv⟩)
end Go.Proofs.YtdigebokbhmfaaaGreatDoor.Ap
namespace Go.Proofs.YtdigebokbhmfaaaGreatDoor.Ap
open Go.Vc Rt Go.Bs
set_option maxHeartbeats 4000000
abbrev Act3 := Int × Int × Int
def encA (p : Act3) : List CV := [.i p.1, .i p.2.1, .i p.2.2]
def actT : Ty Act3 := flat 3 encA (fun _ => rfl)
theorem rngI_snoc (k : Nat) : rngI (k + 1) = rngI k ++ [(k : Int)] := by unfold rngI; rw [List.range_succ, List.map_append]; rfl
def othI (i k : Nat) : List Int := (rngI k).filter fun x => !decide (x = (i : Int))
theorem othI_snoc (i k : Nat) : othI i (k + 1) = othI i k ++ if k = i then [] else [(k : Int)] := by
 unfold othI
 rw [rngI_snoc, List.filter_append, List.filter_cons, List.filter_nil]
 by_cases h : k = i
 ·subst h; simp
 ·rw [if_neg h, decide_eq_false (by omega)]; rfl
theorem othI_len (i k : Nat) : (othI i k).length ≤ k := by unfold othI; exact Nat.le_trans (List.length_filter_le _ _) (by rw [rngI_len]; omega)
theorem may_oth {n i : Nat} (hi : i < n) : mayB (rngI n) i (othI i n) = 0 := by
 rcases may_spec hi (othI i n) with h | ⟨h, _⟩
 ·exfalso
  unfold mayB at h
  rw [rng_has hi, if_pos rfl] at h
  split at h
  ·cases h
  ·rename_i hl
   apply hl
   unfold missB
   rw [List.length_eq_zero_iff, List.filter_eq_nil_iff]
   intro x hx hq
   unfold missK at hq
   simp only [Bool.and_eq_true, Bool.not_eq_true', decide_eq_false_iff_not] at hq
   have : hasI (othI i n) x = true := hasI_iff.2 (List.mem_filter.2 ⟨hx, by rw [decide_eq_false hq.1]; rfl⟩)
   rw [this] at hq
   exact absurd hq.2 (by simp)
 ·exact h
theorem safe_law (m : Int) (hm : 0 ≤ m ∧ m ≤ 255) (acts : List Act3) (v : Value) (w : World) (hG : Gl w) (h : SlOf actT [] w v acts) : Ans Tryz.prog 4 [.int .u8 m, v] (.b true) w := by
 have hln := h.len
 refine calls_e [.x (.int .u8 m), .x v] Tryz.func4 rfl rfl (Nat.le_of_ble_eq_true rfl) trivial fun B0 hB => ?_
 repeat refine zq ?_
 refine zr ?_; conv => whnf
 repeat refine zq ?_
 refine zr ?_; conv => whnf
 refine ans_call (r := .b true) b5 rfl (fun w' hw => small_c w' (hG.ext hw.fr)) ?_; conv => whnf
 repeat refine zq ?_
 refine zr ?_; conv => whnf
 refine ⟨h.sl, ?_⟩; conv => whnf
 repeat refine zq ?_
 refine At.cond rfl (fun hq => ?_) (fun hq => At.skip ?_)
 ·repeat refine zq ?_
  refine zr ?_; conv => whnf
  repeat refine zq ?_
  refine At.ret (At.doneB tab_ok hB _ rfl fun w' hw => ⟨rfl, hw.fr⟩)
 have hal : acts.length ≤ 24 := by have := of_decide_eq_false hq; omega
 clear hq
 obtain ⟨n, hn⟩ : ∃ n : Nat, 1 + m % 4 = (n : Int) := ⟨(1 + m % 4).toNat, by omega⟩
 have h0 : 1 ≤ n := by omega
 have h4 : n ≤ 4 := by omega
 repeat refine zq ?_
 refine zr ?_; conv => whnf
 refine ⟨⟨by omega, by omega⟩, ?_⟩; conv => whnf
 refine ⟨hm.1, ?_⟩; conv => whnf
 refine ⟨by decide, ?_⟩; conv => whnf
 refine ⟨⟨by omega, by omega⟩, ?_⟩; conv => whnf
 rw [hn]
 repeat refine zq ?_
 refine zr ?_; conv => whnf
 refine newAb_call (fun i : Nat × List Nat => .x (ptr i.1)) (fun i => i.2) (fun i => RingQ i.1 i.2 []) b18 (fun _ => rfl) (fun w' hw => ring_new w' (hG.ext hw.fr)) ?_
 rintro ⟨rb, BR⟩
 conv => whnf
 repeat (first | (refine ⟨rfl, ?_⟩; conv => whnf))
 intro b; conv => whnf
 repeat refine zq ?_
 refine zr ?_; conv => whnf
 repeat refine zq ?_
 refine At.cond (t := false) rfl (fun hq => by cases hq) (fun _ => At.skip ?_)
 repeat refine zq ?_
 refine zr ?_; conv => whnf
 repeat refine zq ?_
 refine At.block ?_
 refine At.loopH (fun p' : Nat × Value × Value × List Hi => { N := Tryz.f4.ntmps, sl := [(1, some (.x v)), (5, some (.b true)), (6, some (.i n)), (7, some (.s (.c (.p 0 b 0)))), (8, some (.i p'.1))], gl := [], hp := [(0, .box b 55 [.x (ptr rb), .o 1 p'.2.1, .i 0, .i 0, .o 2 p'.2.2.1, .i (-1), .o 3 (.slice none 0 0)]), (1, .row p'.2.1 3 1 ((rngI p'.1).map encI)), (2, .row p'.2.2.1 27 1 (p'.2.2.2.map fun y => [.x (ptr y.1)])), (3, .row (.slice none 0 0) 3 1 (([] : List Int).map encI)), (4, ringO rb BR []), (5, famO rb p'.2.2.2)], S := [], ws := w }) (fun p' : Nat × Value × Value × List Hi => p'.1 ≤ n ∧ p'.2.2.2.map (fun y => y.2.2) = List.replicate p'.1 []) (fun p' : Nat × Value × Value × List Hi => n - p'.1)
  (fun w' hw => ⟨(0, .slice none 0 0, .slice none 0 0, []), ⟨Nat.zero_le _, rfl⟩, Le.of rfl rfl ⟨rfl, rfl, rfl, rfl, rfl, trivial⟩, hw.recast [0, 1] (old := [LO.box _ _ _, ringO _ _ _]) (new := vObjs b 0 ⟨[], [], -1, []⟩ rb (.slice none 0 0) (.slice none 0 0) (.slice none 0 0) BR []) (rest := []) rfl rfl (fun ho hn => start_objs (ho _ (by simp)) (ho _ (by simp)) hn rfl) rfl rfl, ⟨⟨_, _, rfl⟩, trivial⟩, ⟨fun c hc => by simp at hc; rcases hc with rfl | rfl | rfl | rfl | rfl | rfl | rfl <;> first | exact ⟨_, _, _, rfl⟩ | exact ⟨_, _, rfl⟩ | trivial, (nopI _).okH, (NoP.map (enc := fun y : Hi => [CV.x (ptr y.1)]) (fun _ => rfl) _).okH, (nopI _).okH, trivial⟩⟩) ?_
 rintro ⟨k, kv, hv, L⟩ ⟨hk, hL⟩
 simp only at hk hL ⊢
 have hLl : L.length = k := by have := congrArg List.length hL; simpa using this
 repeat refine zq ?_
 refine zr ?_; conv => whnf
 repeat refine zq ?_
 refine At.cond rfl (fun hc => At.skip ?_) (fun hc => At.exit ?_)
 ·have hlt : k < n := by have := of_decide_eq_true hc; omega
  have hrl : (rngI k).length = k := rngI_len k
  have hrs := rngI_snoc k
  repeat refine zq ?_
  refine At.block ?_
  repeat refine zq ?_
  refine zr ?_; conv => whnf
  refine newAb_call (fun i : Nat × List Nat => .x (ptr i.1)) (fun i => i.2) (fun i => HistQ i.1 rb i.2 []) b19 (fun _ => rfl) (fun w' hw => hnew8 rb w' (hG.ext hw.fr)) ?_
  rintro ⟨hp, BH⟩
  conv => whnf
  repeat refine zq ?_
  refine zr ?_; conv => whnf
  repeat refine zq ?_
  refine At.cond (t := false) rfl (fun hq => by cases hq) (fun _ => At.skip ?_)
  repeat refine zq ?_
  refine zr ?_; conv => whnf
  repeat (first | (refine ⟨rfl, ?_⟩; conv => whnf))
  intro v7; conv => whnf
  refine ⟨rfl, ?_⟩; conv => whnf
  repeat (first | (refine ⟨rfl, ?_⟩; conv => whnf))
  refine ⟨⟨rfl, by simp; omega⟩, ?_⟩; conv => whnf
  intro v8; conv => whnf
  repeat refine zq ?_
  refine zr ?_; conv => whnf
  intro v9; conv => whnf
  refine ⟨rfl, ?_⟩; conv => whnf
  refine ⟨⟨rfl, by simp; omega⟩, ?_⟩; conv => whnf
  intro v10; conv => whnf
  repeat refine zq ?_
  refine zr ?_; conv => whnf
  refine ⟨⟨by omega, by omega⟩, ?_⟩; conv => whnf
  refine At.nextH fun w' hw => ⟨(k + 1, v10, v8, L ++ [(hp, BH, [])]), ⟨by simp only; omega, by simp only [List.map_append, hL, List.map_cons, List.map_nil]; rw [List.replicate_succ']⟩, by simp only; omega, Le.of rfl rfl ⟨rfl, rfl, rfl, rfl, rfl, trivial⟩, Holds.famIn (pre := [_, _, _, _, _]) hw [6, 0, 1, 2, 3, 4, 5] rfl (by simp only [hrs, List.map_append]; rfl) (fun h1 h2 h3 => fam_snoc (y := (hp, BH, [])) h1 h2 h3) (fun y hy => by rcases List.mem_append.1 hy with hy | hy; exact .inr hy; rw [List.mem_singleton.1 hy]; exact .inl rfl) rfl rfl, ⟨⟨_, _, rfl⟩, trivial⟩, ⟨fun c hc => by simp at hc; rcases hc with rfl | rfl | rfl | rfl | rfl | rfl | rfl <;> first | exact ⟨_, _, _, rfl⟩ | exact ⟨_, _, rfl⟩ | trivial, (nopI _).okH, (NoP.map (enc := fun y : Hi => [CV.x (ptr y.1)]) (fun _ => rfl) _).okH, (nopI _).okH, trivial⟩⟩
 have hge : k = n := by have := of_decide_eq_false hc; omega
 subst hge
 have hst := VI.start k
 have hfrB : ∀ {st : St} {w' : World} {B : List Nat} {S : Vil}, Holds st w' → st.S = [] → st.ws = w → Vc.look st.hp 0 = some (villO b B k S) → Gl w' ∧ ∀ c ∈ B, 8 ≤ c := fun hw hS hws hl => ⟨by have := hw.fr; rw [hS, hws] at this; exact hG.ext this, fun c hc => by
  rcases hw.fresh hl c (mem_nub.2 hc) with q | q
  ·rw [hS] at q; cases q
  ·rw [hws] at q; exact Nat.le_trans hG.size q⟩
 repeat refine zq ?_
 refine zr ?_; conv => whnf
 repeat refine zq ?_
 refine At.block ?_
 refine At.loopH (fun p' : Nat × List Nat × Vil => { N := Tryz.f4.ntmps, sl := [(1, some (.x v)), (5, some (.b true)), (6, some (.i k)), (7, some (.x ((ptr b)))), (10, some (.i p'.1))], gl := [], hp := [(0, villO b p'.2.1 k p'.2.2)], S := [], ws := w }) (fun p' : Nat × List Nat × Vil => p'.1 ≤ acts.length ∧ VI k p'.1 p'.2.2) (fun p' : Nat × List Nat × Vil => acts.length - p'.1)
  (fun w' hw => ⟨(0, (vObjs b k ⟨[], List.replicate k [], -1, []⟩ rb kv hv (.slice none 0 0) BR L).flatMap LO.blks, ⟨[], List.replicate k [], -1, []⟩), ⟨Nat.zero_le _, hst⟩, Le.of rfl rfl ⟨rfl, rfl, rfl, rfl, rfl, trivial⟩, vill_shut (rest := []) hw [0, 1, 2, 3, 4, 5] rfl hL rfl rfl rfl, trivial, trivial⟩) ?_
 rintro ⟨i, B, S⟩ ⟨hi, hV⟩
 simp only at hi hV ⊢
 repeat refine zq ?_
 refine zr ?_; conv => whnf
 refine ⟨h.sl, ?_⟩; conv => whnf
 repeat refine zq ?_
 refine At.cond rfl (fun hc => At.skip ?_) (fun hc => At.exit ?_)
 ·have hlt : i < acts.length := by have := of_decide_eq_true hc; omega
  obtain ⟨p, hp⟩ : ∃ p, acts[i]? = some p := ⟨_, List.getElem?_eq_getElem hlt⟩
  obtain ⟨a, haE⟩ : ∃ a : Nat, pickB p.2.1 k = (a : Int) := ⟨(pickB p.2.1 k).toNat, by have := pick_bd (x := p.2.1) (b := k) (by omega); omega⟩
  obtain ⟨c, hcE⟩ : ∃ c : Nat, pickB p.2.2 k = (c : Int) := ⟨(pickB p.2.2 k).toNat, by have := pick_bd (x := p.2.2) (b := k) (by omega); omega⟩
  have hak : a < k := by have := pick_bd (x := p.2.1) (b := k) (by omega); omega
  have hck : c < k := by have := pick_bd (x := p.2.2) (b := k) (by omega); omega
  repeat refine zq ?_
  refine At.block ?_
  repeat refine zq ?_
  refine zr ?_; conv => whnf
  refine ⟨by omega, ?_⟩; conv => whnf
  refine ⟨by omega, ?_⟩; conv => whnf
  refine ⟨[.i p.2.1], fun w' hw => h.load (n := 1) (off := 1) hw.fr hp rfl, ?_⟩; conv => whnf
  refine ans_call (r := .i (a : Int)) b20 rfl (fun w' _ => by have := pick_c p.2.1 (k : Int) ⟨by omega, by omega⟩ w'; rw [haE] at this; exact this) ?_; conv => whnf
  repeat refine zq ?_
  refine zr ?_; conv => whnf
  refine ⟨by omega, ?_⟩; conv => whnf
  refine ⟨by omega, ?_⟩; conv => whnf
  refine ⟨[.i p.2.2], fun w' hw => h.load (n := 1) (off := 2) hw.fr hp rfl, ?_⟩; conv => whnf
  refine ans_call (r := .i (c : Int)) b20 rfl (fun w' _ => by have := pick_c p.2.2 (k : Int) ⟨by omega, by omega⟩ w'; rw [hcE] at this; exact this) ?_; conv => whnf
  repeat refine zq ?_
  refine zr ?_; conv => whnf
  refine ⟨by omega, ?_⟩; conv => whnf
  refine ⟨by omega, ?_⟩; conv => whnf
  refine ⟨[.i p.1], fun w' hw => h.load (n := 1) (off := 0) hw.fr hp rfl, ?_⟩; conv => whnf
  repeat refine zq ?_
  refine At.join (fun p' : List Nat × Vil => { N := Tryz.f4.ntmps, sl := [(1, some (.x v)), (5, some (.b true)), (6, some (.i k)), (7, some (.x ((ptr b)))), (10, some (.i i)), (11, some (.i a)), (12, some (.i c))], gl := [], hp := [(0, villO b p'.1 k p'.2)], S := [], ws := w }) (fun p' : List Nat × Vil => VI k (i + 1) p'.2) ?_ ?_
  ·repeat refine zq ?_
   refine At.block ?_
   repeat refine zq ?_
   refine zr ?_; conv => whnf
   repeat refine zq ?_
   refine At.cond rfl (fun hq => ?_) (fun hq => ?_)
   ·clear hq
    repeat refine zq ?_
    refine zr ?_; conv => whnf
    refine write_call (id := 0) (b := b) (n := k) (d := i) (a := a) (B := B) (S := S) rfl hV h0 h4 (by omega) hak (fun w' hw => hfrB hw rfl rfl rfl) ?_
    intro B2 S2 hV2; conv => whnf
    repeat refine zq ?_
    refine At.cond (t := false) rfl (fun hq => by cases hq) (fun _ => At.skip ?_)
    refine At.meet fun w' hw => ⟨(B2, S2), hV2, Le.of rfl rfl ⟨rfl, rfl, rfl, rfl, rfl, rfl, rfl, trivial⟩, hw.keep [0] rfl rfl rfl, trivial, trivial⟩
   clear hq
   repeat refine zq ?_
   refine zr ?_; conv => whnf
   repeat refine zq ?_
   refine At.cond rfl (fun hq => ?_) (fun hq => ?_)
   ·clear hq
    repeat refine zq ?_
    refine zr ?_; conv => whnf
    refine meet_call (id := 0) (b := b) (n := k) (d := i) (a := a) (c := c) (B := B) (S := S) rfl hV h4 (by omega) hak hck (fun w' hw => hfrB hw rfl rfl rfl) ?_
    intro B2 S2 hV2; conv => whnf
    repeat refine zq ?_
    refine At.cond (t := false) rfl (fun hq => by cases hq) (fun _ => At.skip ?_)
    refine At.meet fun w' hw => ⟨(B2, S2), hV2, Le.of rfl rfl ⟨rfl, rfl, rfl, rfl, rfl, rfl, rfl, trivial⟩, hw.keep [0] rfl rfl rfl, trivial, trivial⟩
   clear hq
   repeat refine zq ?_
   refine zr ?_; conv => whnf
   repeat refine zq ?_
   refine At.cond rfl (fun hq => ?_) (fun hq => At.skip ?_)
   ·clear hq
    repeat refine zq ?_
    refine At.reshapeH fun w' hw => ?_
    obtain ⟨rb, kv, hv, mv, BR, L, hL, hnd, hsub, hob⟩ := villO_at (hw.objs _ (look_mem (s := 0) rfl))
    refine ⟨{ N := Tryz.f4.ntmps, sl := [(1, some (.x v)), (5, some (.b true)), (6, some (.i k)), (7, some (.s (.c (.p 0 b 0)))), (10, some (.i i)), (11, some (.i a)), (12, some (.i c))], gl := [], hp := [(0, .box b 55 [.x (ptr rb), .o 1 kv, .i 0, .i 0, .o 2 hv, .i S.back, .o 3 mv]), (1, .row kv 3 1 ((rngI k).map encI)), (2, .row hv 27 1 (L.map fun y => [.x (ptr y.1)])), (3, .row mv 3 1 (S.met.map encI)), (4, ringO rb BR S.R), (5, famO rb L)], S := [], ws := w }, Le.of rfl rfl ⟨rfl, rfl, rfl, rfl, rfl, rfl, rfl, trivial⟩, vill_open (rest := []) hw [0] rfl rfl hnd hsub hob rfl rfl, ⟨⟨_, _, rfl⟩, trivial⟩, ⟨fun c hc => by simp at hc; rcases hc with rfl | rfl | rfl | rfl | rfl | rfl | rfl <;> first | exact ⟨_, _, _, rfl⟩ | exact ⟨_, _, rfl⟩ | trivial, (nopI _).okH, (NoP.map (enc := fun y : Hi => [CV.x (ptr y.1)]) (fun _ => rfl) _).okH, (nopI _).okH, trivial⟩, ?_⟩
    have hLl : L.length = k := by rw [← hV.hn, ← hL, List.length_map]
    obtain ⟨y, hy⟩ : ∃ y, L[a]? = some y := ⟨_, List.getElem?_eq_getElem (by omega)⟩
    obtain ⟨pa, By, N⟩ := y
    have hRo := hV.rg (by omega)
    have hN : S.H[a]? = some N := by rw [← hL, List.getElem?_map, hy]; rfl
    have hg := hV.good N (List.mem_of_getElem? hN)
    have hNo := nok_good hRo hg
    have hpb := pick_bd (x := p.2.2) (b := 3) (by decide)
    repeat refine zq ?_
    refine zr ?_; conv => whnf
    repeat refine zq ?_
    refine At.cond rfl (fun hq => At.exit ?_) (fun hq => At.skip ?_)
    ·repeat refine zq ?_
     refine zr ?_; conv => whnf
     refine ⟨⟨by omega, by omega⟩, ?_⟩; conv => whnf
     refine At.nextH fun w' hw => ⟨(i + 1, (vObjs b k S rb kv hv mv BR L).flatMap LO.blks, S), ⟨by simp only; omega, hV.up⟩, by simp only; omega, Le.of rfl rfl ⟨rfl, rfl, rfl, rfl, rfl, trivial⟩, vill_shut (rest := []) hw [0, 1, 2, 3, 4, 5] rfl hL rfl rfl rfl, trivial, trivial⟩
    have hbk : S.back = -1 ∨ S.back = (a : Int) := by
     rcases hV.back with q | ⟨q, _⟩
     ·exact .inl q
     ·refine .inr (Decidable.byContradiction fun e => ?_)
      rw [decide_eq_true q, decide_eq_false e] at hq
      cases hq
    clear hq
    have hX := before_good hg hRo.len (a : Int) (1 + pickB p.2.2 3)
    have hXs : ∀ m ∈ mksN (beforeH S.R N (a : Int) (1 + pickB p.2.2 3)), m ∈ mksN N := fun m hm => ((before_mem hg hRo.len (a : Int) (1 + pickB p.2.2 3)).1 hm).1
    have hVs := (hV.setback hN hbk hX hXs).up
    generalize hXe : beforeH S.R N (a : Int) (1 + pickB p.2.2 3) = X at hX hXs hVs
    repeat refine zq ?_
    refine zr ?_; conv => whnf
    repeat refine zq ?_
    refine zr ?_; conv => whnf
    repeat (first | (refine ⟨rfl, ?_⟩; conv => whnf))
    repeat refine zq ?_
    refine At.reshapeH fun w' hw => ⟨{ N := Tryz.f4.ntmps, sl := [(1, some (.x v)), (5, some (.b true)), (6, some (.i k)), (7, some (.s (.c (.p 0 b 0)))), (10, some (.i i)), (11, some (.i a)), (12, some (.i c))], gl := [], hp := [(0, .box b 55 [.x (ptr rb), .o 1 kv, .i 0, .i 0, .o 2 hv, .i a, .o 3 (.slice none 0 0)]), (1, .row kv 3 1 ((rngI k).map encI)), (2, .row hv 27 1 (L.map fun y => [.x (ptr y.1)])), (3, .row (.slice none 0 0) 3 1 (([] : List Int).map encI)), (4, ringO rb BR S.R), (5, famO rb L)], S := [], ws := w }, Le.of rfl rfl ⟨rfl, rfl, rfl, rfl, rfl, rfl, rfl, trivial⟩, Holds.nilMid hw [0, 1, 2, 4, 5] rfl rfl rfl rfl rfl, ⟨⟨_, _, rfl⟩, trivial⟩, ⟨fun c hc => by simp at hc; rcases hc with rfl | rfl | rfl | rfl | rfl | rfl | rfl <;> first | exact ⟨_, _, _, rfl⟩ | exact ⟨_, _, rfl⟩ | trivial, (nopI _).okH, (NoP.map (enc := fun y : Hi => [CV.x (ptr y.1)]) (fun _ => rfl) _).okH, (nopI _).okH, trivial⟩, ?_⟩
    have hRr : ∀ {st : St} {w' : World}, Holds st w' → Vc.look st.hp 4 = some (ringO rb BR S.R) → RgR [] w' rb S.R := fun hw hl => ringO_rr (hw.objs _ (look_mem hl)) (fun x hx => by cases hx)
    have hHr : ∀ {st : St} {w' : World}, Holds st w' → Vc.look st.hp 5 = some (famO rb L) → HR [] w' pa rb N := fun hw hl => fam_hr (y := (pa, By, N)) (hw.objs _ (look_mem hl)) hy hNo
    have hnp : NoP ((L.map fun y => [CV.x (ptr y.1)]).set a [CV.x (ptr pa)]) ∨ True := .inr trivial
    repeat refine zq ?_
    refine At.join (fun p' : Nat × List Nat => { N := Tryz.f4.ntmps, sl := [(1, some (.x v)), (5, some (.b true)), (6, some (.i k)), (7, some (.s (.c (.p 0 b 0)))), (10, some (.i i)), (11, some (.i a)), (12, some (.i c))], gl := [], hp := [(6, histO p'.1 rb p'.2 X), (0, .box b 55 [.x (ptr rb), .o 1 kv, .i 0, .i 0, .o 2 hv, .i a, .o 3 (.slice none 0 0)]), (1, .row kv 3 1 ((rngI k).map encI)), (2, .row hv 27 1 ((L.set a (p'.1, p'.2, X)).map fun y => [.x (ptr y.1)])), (3, .row (.slice none 0 0) 3 1 (([] : List Int).map encI)), (4, ringO rb BR S.R), (5, famO rb L)], S := [], ws := w }) (fun p' : Nat × List Nat => True) ?_ ?_
    ·repeat refine zq ?_
     refine At.planG tab_ok mixed [(0, .box b 55 [.x (ptr rb), .o 1 kv, .i 0, .i 0, .o 2 hv, .i a, .o 3 (.slice none 0 0)])] (.take 0 (.take 1 (.take 2 (.take 3 (.take 4 (.take 5 (.take 6 (.take 7 (.take 8 (.take 9 (.take 12 (.take 13 (.take 14 (.take 15 (.take 16 (.take 17 (.br 10 (.br 11 (.br 18 (.take 19 (.br 20 (.br 21 (.br 22 (.done) (.nob)) (.nob)) (.nob))) (.nob)) (.br 18 (.take 19 (.br 11 (.br 20 (.br 21 (.br 22 (.done) (.nob)) (.nob)) (.nob)) (.nob))) (.nob))) (.br 18 (.take 19 (.br 10 (.br 11 (.br 20 (.br 21 (.br 22 (.done) (.nob)) (.nob)) (.nob)) (.nob)) (.nob))) (.nob))))))))))))))))))) (by kernel_rfl) (by kernel_rfl) ⟨rfl, trivial⟩ ?_; conv => whnf
     refine ⟨by omega, ?_⟩; conv => whnf
     refine ⟨by omega, ?_⟩; conv => whnf
     refine ⟨[.i p.2.2], fun w' hw => h.load (n := 1) (off := 2) hw hp rfl, ?_⟩; conv => whnf
     refine ⟨?_, ?_, trivial⟩
     ·conv => whnf
      refine ⟨rfl, ?_⟩; conv => whnf
      refine ⟨by omega, ?_⟩; conv => whnf
      refine ⟨by simp only [List.length_map]; omega, ?_⟩; conv => whnf
      refine ⟨⟨⟨rfl, trivial⟩, fun w' hw => hw.fr⟩, ?_⟩; conv => whnf
      refine ⟨?_, ?_, trivial⟩
      ·conv => whnf
       refine ⟨[.x (ptr pa)], ⟨rfl, rfl, by omega, by rw [Int.toNat_natCast, List.getElem?_map, hy]; rfl⟩, ?_⟩; conv => whnf
       refine ⟨⟨⟨rfl, trivial⟩, fun w' hw => hw.fr⟩, ?_⟩; conv => whnf
       refine ⟨?_, trivial⟩; conv => whnf
       refine ans_call (r := .i (pickB p.2.2 3)) b20 rfl (fun w' _ => pick_c p.2.2 3 ⟨by decide, by decide⟩ w') ?_; conv => whnf
       refine ⟨⟨⟨rfl, trivial⟩, fun w' hw => hw.fr⟩, ?_⟩; conv => whnf
       refine ⟨⟨by omega, by omega⟩, ?_⟩; conv => whnf
       refine ⟨?_, trivial⟩; conv => whnf
       refine newAb_call (fun i : Nat × List Nat => .x (ptr i.1)) (fun i => i.2) (fun i => HistQ i.1 rb i.2 X) b9 (fun _ => rfl) (fun w' hw => by have := before_h pa rb N hNo S.R (a : Int) (1 + pickB p.2.2 3) w' (hG.ext hw.fr) (hHr hw rfl) (hRr hw rfl); rw [hXe] at this; exact this) ?_
       rintro ⟨px, BX⟩
       conv => whnf
       refine ⟨⟨⟨rfl, trivial⟩, fun w' hw => hw.fr⟩, ?_⟩; conv => whnf
       refine ⟨?_, trivial⟩; conv => whnf
       refine ⟨rfl, ?_⟩; conv => whnf
       refine ⟨by omega, ?_⟩; conv => whnf
       refine ⟨by simp only [List.length_map]; omega, ?_⟩; conv => whnf
       refine ⟨⟨⟨rfl, trivial⟩, fun w' hw => hw.fr⟩, ?_⟩; conv => whnf
       refine ⟨?_, trivial⟩; conv => whnf
       refine ⟨[.x (ptr pa)], ⟨rfl, rfl, by omega, by rw [Int.toNat_natCast, List.getElem?_map, hy]; rfl⟩, ?_⟩; conv => whnf
       refine ⟨rfl, ?_⟩; conv => whnf
       refine ⟨⟨⟨rfl, trivial⟩, fun w' hw => hw.fr⟩, ?_⟩; conv => whnf
       refine At.meet fun w' hw => ⟨(px, BX), trivial, Le.of rfl rfl ⟨rfl, rfl, rfl, rfl, rfl, rfl, rfl, trivial⟩, hw.keep [6, 0, 1, 2, 3, 4, 5] (by simp only [List.map_set]; rfl) rfl rfl, ⟨⟨_, _, rfl⟩, trivial⟩, ⟨fun c hc => by simp at hc; rcases hc with rfl | rfl | rfl | rfl | rfl | rfl | rfl <;> first | exact ⟨_, _, _, rfl⟩ | exact ⟨_, _, rfl⟩ | trivial, (nopI _).okH, (NoP.map (enc := fun y : Hi => [CV.x (ptr y.1)]) (fun _ => rfl) _).okH, (nopI _).okH, trivial⟩⟩
      ·conv => whnf
       refine ans_call (r := .i (pickB p.2.2 3)) b20 rfl (fun w' _ => pick_c p.2.2 3 ⟨by decide, by decide⟩ w') ?_; conv => whnf
       refine ⟨⟨⟨rfl, trivial⟩, fun w' hw => hw.fr⟩, ?_⟩; conv => whnf
       refine ⟨⟨by omega, by omega⟩, ?_⟩; conv => whnf
       refine ⟨?_, trivial⟩; conv => whnf
       refine ⟨[.x (ptr pa)], ⟨rfl, rfl, by omega, by rw [Int.toNat_natCast, List.getElem?_map, hy]; rfl⟩, ?_⟩; conv => whnf
       refine ⟨⟨⟨rfl, trivial⟩, fun w' hw => hw.fr⟩, ?_⟩; conv => whnf
       refine ⟨?_, trivial⟩; conv => whnf
       refine newAb_call (fun i : Nat × List Nat => .x (ptr i.1)) (fun i => i.2) (fun i => HistQ i.1 rb i.2 X) b9 (fun _ => rfl) (fun w' hw => by have := before_h pa rb N hNo S.R (a : Int) (1 + pickB p.2.2 3) w' (hG.ext hw.fr) (hHr hw rfl) (hRr hw rfl); rw [hXe] at this; exact this) ?_
       rintro ⟨px, BX⟩
       conv => whnf
       refine ⟨⟨⟨rfl, trivial⟩, fun w' hw => hw.fr⟩, ?_⟩; conv => whnf
       refine ⟨?_, trivial⟩; conv => whnf
       refine ⟨rfl, ?_⟩; conv => whnf
       refine ⟨by omega, ?_⟩; conv => whnf
       refine ⟨by simp only [List.length_map]; omega, ?_⟩; conv => whnf
       refine ⟨⟨⟨rfl, trivial⟩, fun w' hw => hw.fr⟩, ?_⟩; conv => whnf
       refine ⟨?_, trivial⟩; conv => whnf
       refine ⟨[.x (ptr pa)], ⟨rfl, rfl, by omega, by rw [Int.toNat_natCast, List.getElem?_map, hy]; rfl⟩, ?_⟩; conv => whnf
       refine ⟨rfl, ?_⟩; conv => whnf
       refine ⟨⟨⟨rfl, trivial⟩, fun w' hw => hw.fr⟩, ?_⟩; conv => whnf
       refine At.meet fun w' hw => ⟨(px, BX), trivial, Le.of rfl rfl ⟨rfl, rfl, rfl, rfl, rfl, rfl, rfl, trivial⟩, hw.keep [6, 0, 1, 2, 3, 4, 5] (by simp only [List.map_set]; rfl) rfl rfl, ⟨⟨_, _, rfl⟩, trivial⟩, ⟨fun c hc => by simp at hc; rcases hc with rfl | rfl | rfl | rfl | rfl | rfl | rfl <;> first | exact ⟨_, _, _, rfl⟩ | exact ⟨_, _, rfl⟩ | trivial, (nopI _).okH, (NoP.map (enc := fun y : Hi => [CV.x (ptr y.1)]) (fun _ => rfl) _).okH, (nopI _).okH, trivial⟩⟩
     ·conv => whnf
      refine ans_call (r := .i (pickB p.2.2 3)) b20 rfl (fun w' _ => pick_c p.2.2 3 ⟨by decide, by decide⟩ w') ?_; conv => whnf
      refine ⟨⟨⟨rfl, trivial⟩, fun w' hw => hw.fr⟩, ?_⟩; conv => whnf
      refine ⟨⟨by omega, by omega⟩, ?_⟩; conv => whnf
      refine ⟨?_, trivial⟩; conv => whnf
      refine ⟨rfl, ?_⟩; conv => whnf
      refine ⟨by omega, ?_⟩; conv => whnf
      refine ⟨by simp only [List.length_map]; omega, ?_⟩; conv => whnf
      refine ⟨⟨⟨rfl, trivial⟩, fun w' hw => hw.fr⟩, ?_⟩; conv => whnf
      refine ⟨?_, trivial⟩; conv => whnf
      refine ⟨[.x (ptr pa)], ⟨rfl, rfl, by omega, by rw [Int.toNat_natCast, List.getElem?_map, hy]; rfl⟩, ?_⟩; conv => whnf
      refine ⟨⟨⟨rfl, trivial⟩, fun w' hw => hw.fr⟩, ?_⟩; conv => whnf
      refine ⟨?_, trivial⟩; conv => whnf
      refine newAb_call (fun i : Nat × List Nat => .x (ptr i.1)) (fun i => i.2) (fun i => HistQ i.1 rb i.2 X) b9 (fun _ => rfl) (fun w' hw => by have := before_h pa rb N hNo S.R (a : Int) (1 + pickB p.2.2 3) w' (hG.ext hw.fr) (hHr hw rfl) (hRr hw rfl); rw [hXe] at this; exact this) ?_
      rintro ⟨px, BX⟩
      conv => whnf
      refine ⟨⟨⟨rfl, trivial⟩, fun w' hw => hw.fr⟩, ?_⟩; conv => whnf
      refine ⟨?_, trivial⟩; conv => whnf
      refine ⟨rfl, ?_⟩; conv => whnf
      refine ⟨by omega, ?_⟩; conv => whnf
      refine ⟨by simp only [List.length_map]; omega, ?_⟩; conv => whnf
      refine ⟨⟨⟨rfl, trivial⟩, fun w' hw => hw.fr⟩, ?_⟩; conv => whnf
      refine ⟨?_, trivial⟩; conv => whnf
      refine ⟨[.x (ptr pa)], ⟨rfl, rfl, by omega, by rw [Int.toNat_natCast, List.getElem?_map, hy]; rfl⟩, ?_⟩; conv => whnf
      refine ⟨rfl, ?_⟩; conv => whnf
      refine ⟨⟨⟨rfl, trivial⟩, fun w' hw => hw.fr⟩, ?_⟩; conv => whnf
      refine At.meet fun w' hw => ⟨(px, BX), trivial, Le.of rfl rfl ⟨rfl, rfl, rfl, rfl, rfl, rfl, rfl, trivial⟩, hw.keep [6, 0, 1, 2, 3, 4, 5] (by simp only [List.map_set]; rfl) rfl rfl, ⟨⟨_, _, rfl⟩, trivial⟩, ⟨fun c hc => by simp at hc; rcases hc with rfl | rfl | rfl | rfl | rfl | rfl | rfl <;> first | exact ⟨_, _, _, rfl⟩ | exact ⟨_, _, rfl⟩ | trivial, (nopI _).okH, (NoP.map (enc := fun y : Hi => [CV.x (ptr y.1)]) (fun _ => rfl) _).okH, (nopI _).okH, trivial⟩⟩
    rintro ⟨px, BX⟩ _
    simp only
    repeat refine zq ?_
    refine At.reshapeH fun w' hw => ⟨{ N := Tryz.f4.ntmps, sl := [(1, some (.x v)), (5, some (.b true)), (6, some (.i k)), (7, some (.s (.c (.p 0 b 0)))), (10, some (.i i)), (11, some (.i a)), (12, some (.i c))], gl := [], hp := [(0, .box b 55 [.x (ptr rb), .o 1 kv, .i 0, .i 0, .o 2 hv, .i a, .o 3 (.slice none 0 0)]), (1, .row kv 3 1 ((rngI k).map encI)), (2, .row hv 27 1 ((L.set a (px, BX, X)).map fun y => [.x (ptr y.1)])), (3, .row (.slice none 0 0) 3 1 (([] : List Int).map encI)), (4, ringO rb BR S.R), (5, famO rb (L.set a (px, BX, X)))], S := [], ws := w }, Le.of rfl rfl ⟨rfl, rfl, rfl, rfl, rfl, rfl, rfl, trivial⟩, Holds.famIn (pre := [_, _, _, _, _]) hw [6, 0, 1, 2, 3, 4, 5] rfl rfl (fun h1 h2 h3 => fam_put (y := (px, BX, X)) h1 h2 h3) (fun y hy => (List.mem_or_eq_of_mem_set hy).elim .inr fun e => .inl (by rw [e])) rfl rfl, ⟨⟨_, _, rfl⟩, trivial⟩, ⟨fun c hc => by simp at hc; rcases hc with rfl | rfl | rfl | rfl | rfl | rfl | rfl <;> first | exact ⟨_, _, _, rfl⟩ | exact ⟨_, _, rfl⟩ | trivial, (nopI _).okH, (NoP.map (enc := fun y : Hi => [CV.x (ptr y.1)]) (fun _ => rfl) _).okH, (nopI _).okH, trivial⟩, ?_⟩
    have hsl : (L.set a (px, BX, X)).length = k := by rw [List.length_set]; exact hLl
    have hsg : (L.set a (px, BX, X))[a]? = some (px, BX, X) := by rw [List.getElem?_set, if_pos rfl, if_pos (by omega)]
    have hsL : (L.set a (px, BX, X)).map (fun y => y.2.2) = S.H.set a X := by rw [List.map_set, hL]
    generalize L.set a (px, BX, X) = L2 at hsl hsg hsL ⊢
    repeat refine zq ?_
    refine zr ?_; conv => whnf
    refine ⟨rfl, ?_⟩; conv => whnf
    refine ⟨by omega, ?_⟩; conv => whnf
    refine ⟨by simp only [List.length_map]; omega, ?_⟩; conv => whnf
    refine ⟨[.x (ptr px)], ⟨rfl, rfl, by omega, by rw [Int.toNat_natCast, List.getElem?_map, hsg]; rfl⟩, ?_⟩; conv => whnf
    repeat refine zq ?_
    refine At.cond (t := false) rfl (fun hq => by cases hq) (fun _ => At.skip ?_)
    refine At.meet fun w' hw => ⟨((vObjs b k { S with H := S.H.set a X, back := (a : Int), met := [] } rb kv hv (.slice none 0 0) BR L2).flatMap LO.blks, { S with H := S.H.set a X, back := (a : Int), met := [] }), hVs, Le.of rfl rfl ⟨rfl, rfl, rfl, rfl, rfl, rfl, rfl, trivial⟩, vill_shut (rest := []) hw [0, 1, 2, 3, 4, 5] rfl hsL rfl rfl rfl, trivial, trivial⟩
   ·refine At.meet fun w' hw => ⟨(B, S), hV.up, Le.of rfl rfl ⟨rfl, rfl, rfl, rfl, rfl, rfl, rfl, trivial⟩, hw.keep [0] rfl rfl rfl, trivial, trivial⟩
  rintro ⟨B', S'⟩ hV'
  simp only at hV' ⊢
  repeat refine zq ?_
  refine At.reshapeH fun w' hw => ?_
  obtain ⟨rb, kv, hv, mv, BR, L, hL, hnd, hsub, hob⟩ := villO_at (hw.objs _ (look_mem (s := 0) rfl))
  refine ⟨{ N := Tryz.f4.ntmps, sl := [(1, some (.x v)), (5, some (.b true)), (6, some (.i k)), (7, some (.s (.c (.p 0 b 0)))), (10, some (.i i)), (11, some (.i a)), (12, some (.i c))], gl := [], hp := [(0, .box b 55 [.x (ptr rb), .o 1 kv, .i 0, .i 0, .o 2 hv, .i S'.back, .o 3 mv]), (1, .row kv 3 1 ((rngI k).map encI)), (2, .row hv 27 1 (L.map fun y => [.x (ptr y.1)])), (3, .row mv 3 1 (S'.met.map encI)), (4, ringO rb BR S'.R), (5, famO rb L)], S := [], ws := w }, Le.of rfl rfl ⟨rfl, rfl, rfl, rfl, rfl, rfl, rfl, trivial⟩, vill_open (rest := []) hw [0] rfl rfl hnd hsub hob rfl rfl, ⟨⟨_, _, rfl⟩, trivial⟩, ⟨fun c hc => by simp at hc; rcases hc with rfl | rfl | rfl | rfl | rfl | rfl | rfl <;> first | exact ⟨_, _, _, rfl⟩ | exact ⟨_, _, rfl⟩ | trivial, (nopI _).okH, (NoP.map (enc := fun y : Hi => [CV.x (ptr y.1)]) (fun _ => rfl) _).okH, (nopI _).okH, trivial⟩, ?_⟩
  have hLl : L.length = k := by rw [← hV'.hn, ← hL, List.length_map]
  have hRo := hV'.rg (by omega)
  have hgu : ∀ (j : Nat) (y : Hi), L[j]? = some y → ∀ {st : St} {w' : World}, Holds st w' → Vc.look st.hp 5 = some (famO rb L) → Ans Tryz.prog 23 [ptr y.1] (.x (.slice none 0 0)) w' := fun j y hy st w' hw hl => by
   have hN : S'.H[j]? = some y.2.2 := by rw [← hL, List.getElem?_map, hy]; rfl
   have hm := List.mem_of_getElem? hN
   have hg := hV'.good _ hm
   exact guilty_none y.1 rb y.2.2 (nok_good hRo hg) (tidy_nofork hg (hV'.tidy hm)) w' (fam_hr (hw.objs _ (look_mem hl)) hy (nok_good hRo hg))
  obtain ⟨ya, hya⟩ : ∃ y, L[a]? = some y := ⟨_, List.getElem?_eq_getElem (by omega)⟩
  obtain ⟨yc, hyc⟩ : ∃ y, L[c]? = some y := ⟨_, List.getElem?_eq_getElem (by omega)⟩
  repeat refine zq ?_
  refine At.regionG tab_ok ?_; conv => whnf
  refine ⟨rfl, ?_⟩; conv => whnf
  refine ⟨by omega, ?_⟩; conv => whnf
  refine ⟨by simp only [List.length_map]; omega, ?_⟩; conv => whnf
  refine ⟨[.x (ptr ya.1)], ⟨rfl, rfl, by omega, by rw [Int.toNat_natCast, List.getElem?_map, hya]; rfl⟩, ?_⟩; conv => whnf
  refine ans_call (r := .x (.slice none 0 0)) b23 rfl (fun w' hw => hgu a ya hya hw rfl) ?_; conv => whnf
  refine ⟨nilSl, ?_⟩; conv => whnf
  refine ⟨rfl, ?_⟩; conv => whnf
  refine ⟨by omega, ?_⟩; conv => whnf
  refine ⟨by simp only [List.length_map]; omega, ?_⟩; conv => whnf
  refine ⟨[.x (ptr yc.1)], ⟨rfl, rfl, by omega, by rw [Int.toNat_natCast, List.getElem?_map, hyc]; rfl⟩, ?_⟩; conv => whnf
  refine ans_call (r := .x (.slice none 0 0)) b23 rfl (fun w' hw => hgu c yc hyc hw rfl) ?_; conv => whnf
  refine ⟨nilSl, ?_⟩; conv => whnf
  repeat refine zq ?_
  refine At.cond (t := false) rfl (fun hq => by cases hq) (fun _ => At.skip ?_)
  repeat refine zq ?_
  refine zr ?_; conv => whnf
  refine ⟨⟨by omega, by omega⟩, ?_⟩; conv => whnf
  refine At.nextH fun w' hw => ⟨(i + 1, (vObjs b k S' rb kv hv mv BR L).flatMap LO.blks, S'), ⟨by simp only; omega, hV'⟩, by simp only; omega, Le.of rfl rfl ⟨rfl, rfl, rfl, rfl, rfl, trivial⟩, vill_shut (rest := []) hw [0, 1, 2, 3, 4, 5] rfl hL rfl rfl rfl, trivial, trivial⟩
 have hge : i = acts.length := by have := of_decide_eq_false hc; omega
 subst hge
 repeat refine zq ?_
 refine zr ?_; conv => whnf
 repeat refine zq ?_
 refine At.reshapeH fun w' hw => ?_
 obtain ⟨rb, kv, hv, mv, BR, L, hL, hnd, hsub, hob⟩ := villO_at (hw.objs _ (look_mem (s := 0) rfl))
 refine ⟨{ N := Tryz.f4.ntmps, sl := [(5, some (.b true)), (6, some (.i k)), (7, some (.s (.c (.p 0 b 0)))), (13, some (.i 0))], gl := [], hp := [(0, .box b 55 [.x (ptr rb), .o 1 kv, .i 0, .i 0, .o 2 hv, .i S.back, .o 3 mv]), (1, .row kv 3 1 ((rngI k).map encI)), (2, .row hv 27 1 (L.map fun y => [.x (ptr y.1)])), (3, .row mv 3 1 (S.met.map encI)), (4, ringO rb BR S.R), (5, famO rb L)], S := [], ws := w }, Le.of rfl rfl ⟨rfl, rfl, rfl, rfl, trivial⟩, vill_open (rest := []) hw [0] rfl rfl hnd hsub hob rfl rfl, ⟨⟨_, _, rfl⟩, trivial⟩, ⟨fun c hc => by simp at hc; rcases hc with rfl | rfl | rfl | rfl | rfl | rfl | rfl <;> first | exact ⟨_, _, _, rfl⟩ | exact ⟨_, _, rfl⟩ | trivial, (nopI _).okH, (NoP.map (enc := fun y : Hi => [CV.x (ptr y.1)]) (fun _ => rfl) _).okH, (nopI _).okH, trivial⟩, ?_⟩
 have hLl : L.length = k := by rw [← hV.hn, ← hL, List.length_map]
 have hRo := hV.rg (by omega)
 have hrl : (rngI k).length = k := rngI_len k
 repeat refine zq ?_
 refine At.block ?_
 refine At.loopH (fun i : Nat => { N := Tryz.f4.ntmps, sl := [(5, some (.b true)), (6, some (.i k)), (7, some (.s (.c (.p 0 b 0)))), (13, some (.i i))], gl := [], hp := [(0, .box b 55 [.x (ptr rb), .o 1 kv, .i 0, .i 0, .o 2 hv, .i S.back, .o 3 mv]), (1, .row kv 3 1 ((rngI k).map encI)), (2, .row hv 27 1 (L.map fun y => [.x (ptr y.1)])), (3, .row mv 3 1 (S.met.map encI)), (4, ringO rb BR S.R), (5, famO rb L)], S := [], ws := w }) (fun i : Nat => i ≤ k) (fun i : Nat => k - i)
  (fun w' hw => ⟨0, Nat.zero_le _, Le.of rfl rfl ⟨rfl, rfl, rfl, rfl, trivial⟩, hw.keep [0, 1, 2, 3, 4, 5] rfl rfl rfl, ⟨⟨_, _, rfl⟩, trivial⟩, ⟨fun c hc => by simp at hc; rcases hc with rfl | rfl | rfl | rfl | rfl | rfl | rfl <;> first | exact ⟨_, _, _, rfl⟩ | exact ⟨_, _, rfl⟩ | trivial, (nopI _).okH, (NoP.map (enc := fun y : Hi => [CV.x (ptr y.1)]) (fun _ => rfl) _).okH, (nopI _).okH, trivial⟩⟩) ?_
 intro i hi
 repeat refine zq ?_
 refine zr ?_; conv => whnf
 repeat refine zq ?_
 refine At.cond rfl (fun hc => At.skip ?_) (fun hc => At.exit ?_)
 ·have hlt : i < k := by have := of_decide_eq_true hc; omega
  obtain ⟨y, hy⟩ : ∃ y, L[i]? = some y := ⟨_, List.getElem?_eq_getElem (by omega)⟩
  have hN : S.H[i]? = some y.2.2 := by rw [← hL, List.getElem?_map, hy]; rfl
  have hm := List.mem_of_getElem? hN
  have hg := hV.good _ hm
  have htd := hV.tidy hm
  have hNo := nok_good hRo hg
  have hHr : ∀ {st : St} {w' : World}, Holds st w' → Vc.look st.hp 5 = some (famO rb L) → HR [] w' y.1 rb y.2.2 := fun hw hl => fam_hr (hw.objs _ (look_mem hl)) hy hNo
  repeat refine zq ?_
  refine At.block ?_
  repeat refine zq ?_
  refine zr ?_; conv => whnf
  refine ⟨rfl, ?_⟩; conv => whnf
  refine ⟨by omega, ?_⟩; conv => whnf
  refine ⟨by simp only [List.length_map]; omega, ?_⟩; conv => whnf
  refine ⟨[.x (ptr y.1)], ⟨rfl, rfl, by omega, by rw [Int.toNat_natCast, List.getElem?_map, hy]; rfl⟩, ?_⟩; conv => whnf
  refine ans_call (r := .x (.slice none 0 0)) b23 rfl (fun w' hw => guilty_none y.1 rb y.2.2 hNo (tidy_nofork hg htd) w' (hHr hw rfl)) ?_; conv => whnf
  refine ⟨nilSl, ?_⟩; conv => whnf
  repeat refine zq ?_
  refine At.cond (t := false) rfl (fun hq => by cases hq) (fun _ => At.skip ?_)
  repeat refine zq ?_
  refine zr ?_; conv => whnf
  repeat refine zq ?_
  refine At.block ?_
  refine At.loopH (fun j : Nat => { N := Tryz.f4.ntmps, sl := [(5, some (.b true)), (6, some (.i k)), (7, some (.s (.c (.p 0 b 0)))), (13, some (.i i)), (14, some (.i j))], gl := [], hp := [(0, .box b 55 [.x (ptr rb), .o 1 kv, .i 0, .i 0, .o 2 hv, .i S.back, .o 3 mv]), (1, .row kv 3 1 ((rngI k).map encI)), (2, .row hv 27 1 (L.map fun y => [.x (ptr y.1)])), (3, .row mv 3 1 (S.met.map encI)), (4, ringO rb BR S.R), (5, famO rb L)], S := [], ws := w }) (fun j : Nat => j ≤ k) (fun j : Nat => k - j)
   (fun w' hw => ⟨0, Nat.zero_le _, Le.of rfl rfl ⟨rfl, rfl, rfl, rfl, rfl, trivial⟩, hw.keep [0, 1, 2, 3, 4, 5] rfl rfl rfl, ⟨⟨_, _, rfl⟩, trivial⟩, ⟨fun c hc => by simp at hc; rcases hc with rfl | rfl | rfl | rfl | rfl | rfl | rfl <;> first | exact ⟨_, _, _, rfl⟩ | exact ⟨_, _, rfl⟩ | trivial, (nopI _).okH, (NoP.map (enc := fun y : Hi => [CV.x (ptr y.1)]) (fun _ => rfl) _).okH, (nopI _).okH, trivial⟩⟩) ?_
  intro j hj
  repeat refine zq ?_
  refine zr ?_; conv => whnf
  repeat refine zq ?_
  refine At.cond rfl (fun hc => At.skip ?_) (fun hc => At.exit ?_)
  ·have hltj : j < k := by have := of_decide_eq_true hc; omega
   repeat refine zq ?_
   refine At.block ?_
   repeat refine zq ?_
   refine zr ?_; conv => whnf
   refine ⟨rfl, ?_⟩; conv => whnf
   refine ⟨by omega, ?_⟩; conv => whnf
   refine ⟨by simp only [List.length_map]; omega, ?_⟩; conv => whnf
   refine ⟨[.x (ptr y.1)], ⟨rfl, rfl, by omega, by rw [Int.toNat_natCast, List.getElem?_map, hy]; rfl⟩, ?_⟩; conv => whnf
   refine ans_call (r := .b true) b17 rfl (fun w' hw => by have := straight_r y.1 rb y.2.2 hNo (j : Int) w' (hHr hw rfl); rw [tidy_straight hg htd] at this; exact this) ?_; conv => whnf
   repeat refine zq ?_
   refine At.cond (t := false) rfl (fun hq => by cases hq) (fun _ => At.skip ?_)
   repeat refine zq ?_
   refine zr ?_; conv => whnf
   refine ⟨⟨by omega, by omega⟩, ?_⟩; conv => whnf
   refine At.nextH fun w' hw => ⟨j + 1, by omega, by omega, Le.of rfl rfl ⟨rfl, rfl, rfl, rfl, rfl, trivial⟩, hw.keep [0, 1, 2, 3, 4, 5] rfl rfl rfl, ⟨⟨_, _, rfl⟩, trivial⟩, ⟨fun c hc => by simp at hc; rcases hc with rfl | rfl | rfl | rfl | rfl | rfl | rfl <;> first | exact ⟨_, _, _, rfl⟩ | exact ⟨_, _, rfl⟩ | trivial, (nopI _).okH, (NoP.map (enc := fun y : Hi => [CV.x (ptr y.1)]) (fun _ => rfl) _).okH, (nopI _).okH, trivial⟩⟩
  have hge : j = k := by have := of_decide_eq_false hc; omega
  subst hge
  repeat refine zq ?_
  refine zr ?_; conv => whnf
  repeat refine zq ?_
  refine zr ?_; conv => whnf
  repeat refine zq ?_
  refine At.block ?_
  refine At.loopH (fun p' : Nat × Value => { N := Tryz.f4.ntmps, sl := [(5, some (.b true)), (6, some (.i j)), (7, some (.s (.c (.p 0 b 0)))), (13, some (.i i)), (15, some (.s (.c (.o 6 p'.2)))), (16, some (.i p'.1))], gl := [], hp := [(6, .row p'.2 3 1 ((othI i p'.1).map encI)), (0, .box b 55 [.x (ptr rb), .o 1 kv, .i 0, .i 0, .o 2 hv, .i S.back, .o 3 mv]), (1, .row kv 3 1 ((rngI j).map encI)), (2, .row hv 27 1 (L.map fun y => [.x (ptr y.1)])), (3, .row mv 3 1 (S.met.map encI)), (4, ringO rb BR S.R), (5, famO rb L)], S := [], ws := w }) (fun p' : Nat × Value => p'.1 ≤ j) (fun p' : Nat × Value => j - p'.1)
   (fun w' hw => ⟨(0, .slice none 0 0), Nat.zero_le _, Le.of rfl rfl ⟨rfl, rfl, rfl, rfl, rfl, rfl, trivial⟩, Holds.nilK hw [0, 1, 2, 3, 4, 5] rfl rfl rfl, ⟨⟨_, _, rfl⟩, ⟨_, _, _, rfl⟩, trivial⟩, ⟨(nopI _).okH, fun c hc => by simp at hc; rcases hc with rfl | rfl | rfl | rfl | rfl | rfl | rfl <;> first | exact ⟨_, _, _, rfl⟩ | exact ⟨_, _, rfl⟩ | trivial, (nopI _).okH, (NoP.map (enc := fun y : Hi => [CV.x (ptr y.1)]) (fun _ => rfl) _).okH, (nopI _).okH, trivial⟩⟩) ?_
  rintro ⟨q, vo⟩ hqj
  simp only at hqj ⊢
  repeat refine zq ?_
  refine zr ?_; conv => whnf
  repeat refine zq ?_
  refine At.cond rfl (fun hc => At.skip ?_) (fun hc => At.exit ?_)
  ·have hltq : q < j := by have := of_decide_eq_true hc; omega
   have hos := othI_snoc i q
   have hol := othI_len i q
   repeat refine zq ?_
   refine At.block ?_
   repeat refine zq ?_
   refine zr ?_; conv => whnf
   repeat refine zq ?_
   refine At.cond rfl (fun hq => ?_) (fun hq => At.skip ?_)
   ·have hqi : ¬ q = i := by simp at hq; omega
    rw [if_neg hqi] at hos
    repeat refine zq ?_
    refine zr ?_; conv => whnf
    intro v8; conv => whnf
    refine ⟨rfl, ?_⟩; conv => whnf
    refine ⟨⟨rfl, by simp; omega⟩, ?_⟩; conv => whnf
    intro v9; conv => whnf
    repeat refine zq ?_
    refine zr ?_; conv => whnf
    refine ⟨⟨by omega, by omega⟩, ?_⟩; conv => whnf
    refine At.nextH fun w' hw => ⟨(q + 1, v9), by simp only; omega, by simp only; omega, Le.of rfl rfl ⟨rfl, rfl, rfl, rfl, rfl, rfl, trivial⟩, hw.keep [6, 0, 1, 2, 3, 4, 5] (by simp only [hos, List.map_append]; rfl) rfl rfl, ⟨⟨_, _, rfl⟩, ⟨_, _, _, rfl⟩, trivial⟩, ⟨(nopI _).okH, fun c hc => by simp at hc; rcases hc with rfl | rfl | rfl | rfl | rfl | rfl | rfl <;> first | exact ⟨_, _, _, rfl⟩ | exact ⟨_, _, rfl⟩ | trivial, (nopI _).okH, (NoP.map (enc := fun y : Hi => [CV.x (ptr y.1)]) (fun _ => rfl) _).okH, (nopI _).okH, trivial⟩⟩
   ·have hqi : q = i := by simp at hq; omega
    rw [if_pos hqi, List.append_nil] at hos
    repeat refine zq ?_
    refine zr ?_; conv => whnf
    refine ⟨⟨by omega, by omega⟩, ?_⟩; conv => whnf
    refine At.nextH fun w' hw => ⟨(q + 1, vo), by simp only; omega, by simp only; omega, Le.of rfl rfl ⟨rfl, rfl, rfl, rfl, rfl, rfl, trivial⟩, hw.keep [6, 0, 1, 2, 3, 4, 5] (by simp only [hos]; rfl) rfl rfl, ⟨⟨_, _, rfl⟩, ⟨_, _, _, rfl⟩, trivial⟩, ⟨(nopI _).okH, fun c hc => by simp at hc; rcases hc with rfl | rfl | rfl | rfl | rfl | rfl | rfl <;> first | exact ⟨_, _, _, rfl⟩ | exact ⟨_, _, rfl⟩ | trivial, (nopI _).okH, (NoP.map (enc := fun y : Hi => [CV.x (ptr y.1)]) (fun _ => rfl) _).okH, (nopI _).okH, trivial⟩⟩
  have hge : q = j := by have := of_decide_eq_false hc; omega
  subst hge
  have hol := othI_len i q
  repeat refine zq ?_
  refine At.planG tab_ok mixed [(0, .box b 55 [.x (ptr rb), .o 1 kv, .i 0, .i 0, .o 2 hv, .i S.back, .o 3 mv]), (2, .row hv 27 1 (L.map fun y => [.x (ptr y.1)]))] (.take 0 (.take 1 (.take 2 (.take 3 (.take 4 (.take 5 (.take 6 (.take 7 (.take 8 (.take 9 (.take 10 (.take 11 (.take 12 (.br 13 (.take 14 (.done)) (.nob))))))))))))))) (by kernel_rfl) (by kernel_rfl) ⟨rfl, rfl, trivial⟩ ?_; conv => whnf
  refine ⟨rfl, ?_⟩; conv => whnf
  refine ⟨by omega, ?_⟩; conv => whnf
  refine ⟨by simp only [List.length_map]; omega, ?_⟩; conv => whnf
  refine ⟨[.x (ptr y.1)], ⟨rfl, rfl, by omega, by rw [Int.toNat_natCast, List.getElem?_map, hy]; rfl⟩, ?_⟩; conv => whnf
  refine ⟨?_, trivial⟩; conv => whnf
  refine ans_call (r := .i 0) b24 rfl (fun w' hw => by have := may_c y.1 rb y.2.2 hNo (hV.kind hm) (tidy_nofork hg htd) (rngI q) kv 0 0 (rngR h0 h4) (i : Int) (othI i q) vo w' (hHr hw rfl) (slI _ (hw.row (id := 1) rfl) (by omega)) (by omega) (slI _ (hw.row (id := 6) rfl) (by omega)); rw [may_oth hlt] at this; exact this) ?_; conv => whnf
  refine ⟨⟨⟨rfl, rfl, trivial⟩, fun w' hw => hw.fr⟩, ?_⟩; conv => whnf
  repeat refine zq ?_
  refine At.cond (t := false) rfl (fun hq => by cases hq) (fun _ => At.skip ?_)
  repeat refine zq ?_
  refine zr ?_; conv => whnf
  refine ⟨⟨by omega, by omega⟩, ?_⟩; conv => whnf
  refine At.nextH fun w' hw => ⟨i + 1, by omega, by omega, Le.of rfl rfl ⟨rfl, rfl, rfl, rfl, trivial⟩, hw.keep [0, 1, 2, 3, 4, 5] rfl rfl rfl, ⟨⟨_, _, rfl⟩, trivial⟩, ⟨fun c hc => by simp at hc; rcases hc with rfl | rfl | rfl | rfl | rfl | rfl | rfl <;> first | exact ⟨_, _, _, rfl⟩ | exact ⟨_, _, rfl⟩ | trivial, (nopI _).okH, (NoP.map (enc := fun y : Hi => [CV.x (ptr y.1)]) (fun _ => rfl) _).okH, (nopI _).okH, trivial⟩⟩
 repeat refine zq ?_
 refine zr ?_; conv => whnf
 repeat refine zq ?_
 refine At.ret (At.doneB tab_ok hB _ rfl fun w' hw => ⟨rfl, hw.fr⟩)
end Go.Proofs.YtdigebokbhmfaaaGreatDoor.Ap
namespace Go.Proofs.YtdigebokbhmfaaaGreatDoor
open Go.Vc Rt Go.Bs
theorem u64 : Tryz.prog.underlying 74 = some (.struct (Tryz.prog.fieldsOf 74)) := by kernel_rfl
theorem uO3 : Tryz.prog.underlying 3 = some (.int .i64) := by kernel_rfl
theorem uO4 : Tryz.prog.underlying 4 = some .bool := by kernel_rfl
theorem k3 : Tryz.prog.cellsOf 3 = 1 := by kernel_rfl
def intQ : Ty Int where
 size := 1
 rel := fun _ _ n l => l = [.i n] ∧ iR n
 len := fun ⟨h, _⟩ => by rw [h]; rfl
 fr := fun _ h => h
 av := fun _ h => h
theorem SlOf.ints {S : List Nat} {w : World} {v : Value} {xs : List Int} (h : SlOf intQ S w v xs) : SlOf intT S w v xs ∧ ∀ x ∈ xs, iR x :=
 ⟨⟨h.sl, h.len, h.small, h.av, fun i x hx => by obtain ⟨l, ⟨h1, _⟩, h2⟩ := h.elem i x hx; exact ⟨l, h1, h2⟩⟩, fun x hx => by
  obtain ⟨i, hi, rfl⟩ := List.getElem_of_mem hx
  obtain ⟨l, ⟨_, h1⟩, _⟩ := h.elem i _ (List.getElem?_eq_getElem hi)
  exact h1⟩
instance : Inhabited Span := ⟨⟨0, 0, 0⟩⟩
section
variable {H : Type} {enc : TypeId × Value → H} {w : World} {spare : Nat → Bool} {held : Bool}
theorem cells_get {base k : Nat} {a : Addr} {cs : List Value} (h : w.cells? base a k = some cs) : cs.length = k ∧ ∀ (j : Nat) u, cs[j]? = some u → w.cell? (a.add j) = some u := by
 unfold World.cells? at h
 split at h
 ·have hl := mapM_some_length h
  simp at hl
  refine ⟨hl, fun j u hu => ?_⟩
  have hj : j < k := by have := (List.getElem?_eq_some_iff.1 hu).1; omega
  have := mapM_some_get h j j (by simp [hj])
  rw [this]; exact hu
 ·cases h
theorem inR_of_wf {n : Int} (h : (Lit.int .i64 n).wf = true) : inR n := by
 simp only [Lit.wf, Bool.and_eq_true, decide_eq_true_eq] at h
 exact ⟨h.1, h.2⟩
theorem slOf_open {α : Type} [Inhabited α] {T : Ty α} {t e : TypeId} (ht : Tryz.prog.underlying t = some (.slice e)) (hc : Tryz.prog.cellsOf e = T.size) (hpos : 0 < T.size) (hT : ∀ cs n x, DataW.trod enc Tryz.prog w 0 spare held n e cs = some x → ∃ (a : α) (l : List CV), T.rel [] w a l ∧ dens l = cs)
  {fuel : Nat} {cs : List Value} {x : DataW H × List MemPlace} (h : DataW.trod enc Tryz.prog w 0 spare held fuel t cs = some x) : ∃ v xs, cs = [v] ∧ SlOf T [] w v xs := by
 rcases Deep.open_slice ht h with ⟨rfl, _⟩ | ⟨a, len, cap, m, n, D, Pl, rfl, hb, hlc, hcm, hm, _, hx⟩
 ·exact ⟨_, [], rfl, ⟨⟨none, 0, 0, rfl, fun _ => ⟨rfl, rfl⟩, Nat.le_refl _⟩, rfl, by simp, fun a n c e => (by cases e), fun i x hx => (by simp at hx)⟩⟩
 ·have hlm : len ≤ m := by rw [hm]; split <;> omega
  have key : ∀ i : Nat, ∃ (y : α) (l : List CV), i < len → T.rel [] w y l ∧ ∀ j u, (dens l)[j]? = some u → w.cell? ((a.add (i * T.size)).add j) = some u := by
   intro i
   by_cases hi : i < len
   ·obtain ⟨cs', h1, h2⟩ := hx i (by omega)
    obtain ⟨y, l, h3, h4⟩ := hT cs' n _ h2
    rw [hc] at h1
    exact ⟨y, l, fun _ => ⟨h3, fun j u hu => (cells_get h1).2 j u (by rw [← h4]; exact hu)⟩⟩
   ·exact ⟨default, [], fun h => absurd h hi⟩
  let Y : Nat → α := fun i => Classical.choose (key i)
  have hY : ∀ i, i < len → ∃ l, T.rel [] w (Y i) l ∧ ∀ j u, (dens l)[j]? = some u → w.cell? ((a.add (i * T.size)).add j) = some u := fun i hi => by
   obtain ⟨l, hl⟩ := Classical.choose_spec (key i)
   exact ⟨l, hl hi⟩
  refine ⟨_, (List.range len).map Y, rfl, ⟨⟨some a, len, cap, rfl, fun h => (by cases h), hlc⟩, by simp [slen], by simp; unfold maxLen at hcm; omega, fun b n' c' e hp => ?_, fun i y hy => ?_⟩⟩
  ·cases e
   refine ⟨(fun h => (by cases h)), ?_⟩
   simp at hp
   obtain ⟨l, h1, h2⟩ := hY 0 hp
   have hll := T.len h1
   have := h2 0 ((dens l)[0]'(by simp [dens]; omega)) (List.getElem?_eq_getElem _)
   unfold World.cell? at this
   split at this
   ·rename_i c _ _ hh
    rw [add_block, add_block] at hh
    exact (Array.getElem?_eq_some_iff.1 hh).1
   ·cases this
  ·have hi : i < len := by have := (List.getElem?_eq_some_iff.1 hy).1; simpa using this
   simp [hi] at hy
   subst hy
   obtain ⟨l, h1, h2⟩ := hY i hi
   refine ⟨l, h1, fun a' n' c' e j u hu => ?_⟩
   cases e
   have := h2 j u hu
   unfold elemAddr
   rw [Int.toNat_natCast, add_add (a.add (i * T.size)) 0 j, Nat.zero_add]
   exact this
theorem struct_get {t K : Nat} {fs : Array Field} (ht : Tryz.prog.underlying t = some (.struct fs)) {FL : List (TypeId × Nat)} (hf : fs.toList.map (fun f => (f.type, f.offset)) = FL) (hk : Tryz.prog.cellsOf t = K)
  {fuel : Nat} {cs : List Value} {x : DataW H × List MemPlace} (h : DataW.trod enc Tryz.prog w 0 spare held fuel t cs = some x) :
  cs.length = K ∧ ∀ (i : Nat) u o k, FL[i]? = some (u, o) → Tryz.prog.cellsOf u = k → ∃ n y, DataW.trod enc Tryz.prog w 0 spare held n u ((cs.drop o).take k) = some y := by
 obtain ⟨xs, n, _, _, hl, hxl, hget⟩ := DataW.trod_struct ht h
 refine ⟨by rw [hl, hk], fun i u o k hu hkk => ?_⟩
 have hfl : fs.size = FL.length := by have := congrArg List.length hf; simpa using this
 have hi : i < FL.length := (List.getElem?_eq_some_iff.1 hu).1
 rw [← hf, List.getElem?_map] at hu
 obtain ⟨f, hf1, hf2⟩ := Option.map_eq_some_iff.1 hu
 simp only [Prod.mk.injEq] at hf2
 obtain ⟨e1, e2⟩ := hf2
 have := hget i f (by simpa using hf1)
 rw [e1, e2, hkk, List.getElem?_eq_getElem (by omega)] at this
 exact ⟨n, _, this⟩
theorem int_of {n : Nat} {c : Value} {y : DataW H × List MemPlace} (h : DataW.trod enc Tryz.prog w 0 spare held n 3 [c] = some y) : ∃ m : Int, c = .int .i64 m ∧ iR m := by
 obtain ⟨m, q, _, hw⟩ := DataW.trod_int uO3 h
 simp at q
 have := inR_of_wf hw
 exact ⟨m, q, this⟩
end
end Go.Proofs.YtdigebokbhmfaaaGreatDoor
namespace Go.Proofs.YtdigebokbhmfaaaGreatDoor
open Go.Vc Rt Go.Bs
section
variable {H : Type} {enc : TypeId × Value → H} {w : World} {spare : Nat → Bool} {held : Bool}
end
end Go.Proofs.YtdigebokbhmfaaaGreatDoor
namespace Go.Proofs.YtdigebokbhmfaaaGreatDoor
open Go.Vc Rt Go.Bs
theorem uA48 : Tryz.prog.underlying 48 = some (.slice 59) := by kernel_rfl
theorem uA59 : Tryz.prog.underlying 59 = some (.struct (Tryz.prog.fieldsOf 59)) := by kernel_rfl
theorem uA5 : Tryz.prog.underlying 5 = some (.int .u8) := by kernel_rfl
theorem flA59 : (Tryz.prog.fieldsOf 59).toList.map (fun f => (f.type, f.offset)) = [(3, 0), (3, 1), (3, 2)] := by kernel_rfl
theorem kA59 : Tryz.prog.cellsOf 59 = 3 := by kernel_rfl
section
variable {H : Type} {enc : TypeId × Value → H} {w : World} {spare : Nat → Bool} {held : Bool}
theorem act_open {fuel : Nat} {cs : List Value} {x : DataW H × List MemPlace} (h : DataW.trod enc Tryz.prog w 0 spare held fuel 59 cs = some x) : ∃ (p : Ap.Act3) (l : List CV), Ap.actT.rel [] w p l ∧ dens l = cs := by
 obtain ⟨hl, hg⟩ := struct_get uA59 flA59 kA59 h
 match cs, hl with
 | [a, b, c], _ =>
  obtain ⟨_, _, t0⟩ := hg 0 3 0 1 rfl k3
  obtain ⟨_, _, t1⟩ := hg 1 3 1 1 rfl k3
  obtain ⟨_, _, t2⟩ := hg 2 3 2 1 rfl k3
  obtain ⟨n0, rfl, _⟩ := int_of t0
  obtain ⟨n1, rfl, _⟩ := int_of t1
  obtain ⟨n2, rfl, _⟩ := int_of t2
  exact ⟨(n0, n1, n2), Ap.encA (n0, n1, n2), rfl, rfl⟩
theorem acts_open {v : Value} {d : DataW H} {ps : List MemPlace} (hs : ∃ a n c, v = .slice a n c) (h : DataW.Trod enc Tryz.prog w 0 spare held 48 v d ps) : ∃ l, SlOf Ap.actT [] w v l := by
 obtain ⟨a, n, c, rfl⟩ := hs
 obtain ⟨fuel, hf⟩ := h
 obtain ⟨v, xs, e, hv⟩ := slOf_open (T := Ap.actT) uA48 kA59 (by decide) (fun cs n x h => act_open h) hf
 simp [Value.cells] at e
 subst e
 exact ⟨xs, hv⟩
theorem byte_openT {v : Value} {d : DataW H} {ps : List MemPlace} (hs : ∃ n, v = .int .u8 n) (h : DataW.Trod enc Tryz.prog w 0 spare held 5 v d ps) : ∃ n : Int, v = .int .u8 n ∧ 0 ≤ n ∧ n ≤ 255 := by
 obtain ⟨n, rfl⟩ := hs
 obtain ⟨fuel, hf⟩ := h
 obtain ⟨m, q, _, hw⟩ := DataW.trod_int uA5 hf
 cases q
 simp only [Lit.wf, Bool.and_eq_true, decide_eq_true_eq] at hw
 exact ⟨n, rfl, hw.1, hw.2⟩
end
end Go.Proofs.YtdigebokbhmfaaaGreatDoor
namespace Go.Proofs.YtdigebokbhmfaaaGreatDoor
open Go.Vc
noncomputable def laidL : List (String × DataW Unit) := [("stokvel/entry.uses", Rows.laid_stokvel_entry_uses), ("internal/strconv.uint64pow10", Rows.laid_internal_strconv_uint64pow10), ("math/bits.deBruijn32tab", Rows.laid_math_bits_deBruijn32tab), ("math/bits.deBruijn64tab", Rows.laid_math_bits_deBruijn64tab), ("strconv.ErrSyntax", Rows.laid_strconv_ErrSyntax), ("strconv.ErrRange", Rows.laid_strconv_ErrRange), ("stokvel/lex.signs", Rows.laid_stokvel_lex_signs)]
theorem laidL_plain : (laidL.all fun x => x.2.handleName?.isNone) = true := by kernel_rfl
theorem gUses : Tryz.prog.globalNamed "stokvel/entry.uses" = some 0 := by kernel_rfl
theorem gErrS : Tryz.prog.globalNamed "strconv.ErrSyntax" = some 3 := by kernel_rfl
theorem gErrR : Tryz.prog.globalNamed "strconv.ErrRange" = some 4 := by kernel_rfl
theorem gTab64 : Tryz.prog.globalNamed "math/bits.deBruijn64tab" = some 7 := by kernel_rfl
theorem tUses : (Tryz.prog.globals[0]?).map (·.type) = some 216 := by kernel_rfl
theorem tPow : (Tryz.prog.globals[2]?).map (·.type) = some 448 := by kernel_rfl
theorem tErrS : (Tryz.prog.globals[3]?).map (·.type) = some 127 := by kernel_rfl
theorem tErrR : (Tryz.prog.globals[4]?).map (·.type) = some 127 := by kernel_rfl
theorem uUses : Tryz.prog.underlying 216 = some (.array 21 9) := by kernel_rfl
theorem uPow : Tryz.prog.underlying 448 = some (.array 20 136) := by kernel_rfl
theorem uU64 : Tryz.prog.underlying 136 = some (.int .u64) := by kernel_rfl
theorem uStr : Tryz.prog.underlying 9 = some .string := by kernel_rfl
def isIfc : Option TypeDesc → Bool
 | some (.interface _) => true
 | _ => false
theorem isIfc_spec {d : Option TypeDesc} (h : isIfc d = true) : ∃ ms, d = some (.interface ms) := by
 unfold isIfc at h
 split at h
 ·exact ⟨_, rfl⟩
 ·cases h
theorem uErr : ∃ ms, Tryz.prog.underlying 127 = some (.interface ms) := isIfc_spec (by kernel_rfl)
theorem cUses : Tryz.prog.cellsOf 216 = 21 := by kernel_rfl
theorem cPow : Tryz.prog.cellsOf 448 = 20 := by kernel_rfl
theorem cU64 : Tryz.prog.cellsOf 136 = 1 := by kernel_rfl
theorem cStr : Tryz.prog.cellsOf 9 = 1 := by kernel_rfl
theorem cells_of_strs {H : Type} {enc : TypeId × Value → H} {P : Program} {w : World} {base : Nat} {sp : Nat → Bool} {held : Bool} {fuel : Nat} {t e : TypeId} {n : Nat} {cs : List Value} {zs : List (List UInt8)} {p : List MemPlace}
  (ht : P.underlying t = some (.array n e)) (he : P.underlying e = some .string) (hce : P.cellsOf e = 1) (hct : P.cellsOf t = n)
  (h : DataW.trod enc P w base sp held fuel t cs = some (.agg (zs.map fun z => .lit (.string z)), p)) : cs = zs.map sv := by
 obtain ⟨xs, m, rfl, hx, hl, hxl, hel⟩ := DataW.trod_array ht h
 rw [hct] at hl
 simp only [Prod.mk.injEq, DataW.agg.injEq] at hx
 have hzl : zs.length = n := by have := congrArg List.length hx.1; simp at this; omega
 apply List.ext_getElem?
 intro i
 by_cases hi : i < n
 ·have h0 := hel i hi
  rw [hce, Nat.mul_one, List.getElem?_eq_getElem (by omega)] at h0
  obtain ⟨s, hc, hy, _⟩ := DataW.trod_string he h0
  have h1 : cs[i]? = some (.string s) := by
   have := congrArg (·[0]?) hc
   simpa [List.getElem?_take, List.getElem?_drop] using this
  have h2 := congrArg (·[i]?) hx.1
  simp only [List.getElem?_map, List.getElem?_eq_getElem (show i < xs.length by omega), List.getElem?_eq_getElem (show i < zs.length by omega), Option.map_some, hy, Option.some.injEq, DataW.lit.injEq, Lit.string.injEq] at h2
  rw [h1, List.getElem?_map, List.getElem?_eq_getElem (show i < zs.length by omega), Option.map_some]
  have h3 : s = bs zs[i] := by
   rw [h2]
   obtain ⟨⟨l⟩⟩ := s
   rfl
  rw [h3]
 ·rw [List.getElem?_eq_none (by omega), List.getElem?_eq_none (by simp; omega)]
theorem iface_of {H : Type} {enc : TypeId × Value → H} {P : Program} {w : World} {base : Nat} {sp : Nat → Bool} {held : Bool} {fuel : Nat} {t : TypeId} {ms : Array (String × TypeId)} {cs : List Value} {nm : String} {d : DataW H} {p : List MemPlace}
  (ht : P.underlying t = some (.interface ms)) (h : DataW.trod enc P w base sp held fuel t cs = some (.iface nm d, p)) : ∃ u v, cs = [.iface u v] := by
 cases fuel with
 | zero => simp [DataW.trod] at h
 | succ fuel =>
  unfold DataW.trod at h
  rw [ht] at h
  split at h <;> simp_all
theorem gl_of_laid {W : World} (h : laidMetH Tryz.prog laidL W) : Gl W := by
 rw [MakeChecks.laidMetH_plain _ _ _ laidL_plain] at h
 obtain ⟨ps, ⟨g0, t0, cs0, f0, p0, q0, hg0, ht0, hv0, hd0, ⟨g1, t1, cs1, f1, p1, q1, hg1, ht1, hv1, hd1, ⟨g2', t2, cs2, f2, p2, q2, hg2, ht2, hv2, hd2, ⟨g3, t3, cs3, f3, p3, q3, hg3, ht3, hv3, hd3, ⟨g4, t4, cs4, f4, p4, q4, hg4, ht4, hv4, hd4, ⟨g5, t5, cs5, f5, p5, q5, hg5, ht5, hv5, hd5, ⟨g6, t6, cs6, f6, p6, q6, hg6, ht6, hv6, hd6, _, _⟩, _⟩, _⟩, _⟩, _⟩, _⟩, hps⟩, _, hcell⟩ := h
 obtain rfl := Option.some.inj (gUses.symm.trans hg0)
 obtain rfl := Option.some.inj (g2.symm.trans hg1)
 obtain rfl := Option.some.inj (gErrS.symm.trans hg4)
 obtain rfl := Option.some.inj (gErrR.symm.trans hg5)
 obtain rfl := Option.some.inj (tUses.symm.trans ht0)
 obtain rfl := Option.some.inj (tPow.symm.trans ht1)
 obtain rfl := Option.some.inj (tErrS.symm.trans ht4)
 obtain rfl := Option.some.inj (tErrR.symm.trans ht5)
 obtain ⟨ms, uE⟩ := uErr
 have e0 : cs0.toList = usesTab.map sv := cells_of_strs uUses uStr cStr cUses hd0
 have e1 : cs1.toList = Lib.pow10Tab.map fun z => Value.int .u64 z := Lib.cells_of_tab uPow uU64 cU64 cPow hd1
 obtain ⟨u4, v4, e4⟩ := iface_of uE hd4
 obtain ⟨u5, v5, e5⟩ := iface_of uE hd5
 have hs : ∀ {g : Nat} {cs : Array Value} {n : String}, Tryz.prog.globalNamed n = some g → W.var? Tryz.prog n = some cs → g < W.heap.size := fun {g cs n} hg hv => by
  simp only [World.var?, hg, Option.bind_some] at hv
  split at hv
  ·rename_i hh; exact (Array.getElem?_eq_some_iff.1 hh).1
  ·cases hv
 refine ⟨?_, ?_, ?_, ⟨u4, v4, ?_⟩, ⟨u5, v5, ?_⟩⟩
 ·have := hs gTab64 hv3
  omega
 ·have hm : MemPlace.cell 0 0 ∈ ps := by
   rw [hps]
   refine List.mem_append.2 (.inl (List.mem_append.2 (.inl ?_)))
   refine List.mem_map.2 ⟨0, List.mem_range.2 ?_, rfl⟩
   have := congrArg List.length e0
   simp only [Array.length_toList, List.length_map] at this
   rw [this]; decide
  obtain ⟨⟨c, T, hh⟩, _⟩ := hcell 0 0 hm
  refine ⟨T, ?_⟩
  rw [hh]
  simp only [World.var?, gUses, Option.bind_some, hh, Option.some.injEq] at hv0
  rw [hv0, ← e0]
 ·show W.var? Tryz.prog _ = _
  rw [hv1, ← e1]
 ·have := World.var?_cell hg4 hv4 0
  rw [this, ← Array.getElem?_toList, e4]; rfl
 ·have := World.var?_cell hg5 hv5 0
  rw [this, ← Array.getElem?_toList, e5]; rfl
end Go.Proofs.YtdigebokbhmfaaaGreatDoor
