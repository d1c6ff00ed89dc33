/- Texts that the law leans on. -/
import Derived.Test.YtdigebokbhmfaaaGreatDoorU25
import Derived.Test.YtdigebokbhmfaaaGreatDoorU18
import Derived.Test.YtdigebokbhmfaaaGreatDoorU24
import Derived.Test.YtdigebokbhmfaaaGreatDoorU22
import Derived.Shelf.SlIterI.Nil
import Derived.Shelf.SortM.Plain
import Derived.Shelf.SortM.SortNone
import Derived.Ground.GgzProg
import Derived.Ground.SlgmProg
import Derived.Test.YtdigebokbhmfaaaGreatDoorProg
set_option linter.unusedVariables false
set_option linter.unusedSimpArgs false
namespace Go.Proofs.YtdigebokbhmfaaaGreatDoor.Ap
open Go.Vc Rt Go.Bs
set_option maxHeartbeats 1000000
def leN (a b : Nd) : Bool := !decide (cmpNd b a < 0)
def canB (N : List Nd) : List Nd := N.mergeSort leN
def sortedB (N : List Nd) : List Int := (canB N).map Nd.mark
theorem leN_iff (a b : Nd) : leN a b = true ↔ ¬ ltN b a := by unfold leN; rw [Bool.not_eq_true', decide_eq_false_iff_not, cmpNd_neg]
theorem ltN_tot {a b : Nd} (h1 : ¬ ltN a b) (h2 : ¬ ltN b a) : a.mark = b.mark := by unfold ltN at *; omega
theorem canB_perm (N : List Nd) : (canB N).Perm N := List.mergeSort_perm N leN
theorem canB_pw (N : List Nd) : (canB N).Pairwise (fun a b => ¬ ltN b a) := by
 have tr : ∀ a b c : Nd, leN a b = true → leN b c = true → leN a c = true := fun a b c h1 h2 => by
  rw [leN_iff] at *; unfold ltN at *; omega
 have to : ∀ a b : Nd, (leN a b || leN b a) = true := fun a b => by
  by_cases h : leN a b = true
  ·rw [h]; rfl
  ·rw [Bool.or_eq_true]; right
   rw [leN_iff] at *; unfold ltN at *; omega
 exact (List.pairwise_mergeSort tr to N).imp fun h => (leN_iff _ _).1 h
theorem mark_inj {N : List Nd} (h : (N.map Nd.mark).Nodup) : ∀ {a b : Nd}, a ∈ N → b ∈ N → a.mark = b.mark → a = b := by
 intro a b ha hb e
 obtain ⟨i, hi, rfl⟩ := List.getElem_of_mem ha
 obtain ⟨j, hj, rfl⟩ := List.getElem_of_mem hb
 have := (List.getElem_inj (xs := N.map Nd.mark) (i := i) (j := j) (h₀ := by simpa using hi) (h₁ := by simpa using hj) h).1 (by simpa using e)
 subst this; rfl
theorem can_uniq {N L : List Nd} (hn : (N.map Nd.mark).Nodup) (hp : L.Perm N) (hs : L.Pairwise (fun a b => ¬ ltN b a)) : L = canB N := by
 refine List.Perm.eq_of_pairwise (le := fun a b => ¬ ltN b a) (fun a b ha hb h1 h2 => ?_) hs (canB_pw N) (hp.trans (canB_perm N).symm)
 exact mark_inj hn (hp.mem_iff.1 ha) ((canB_perm N).mem_iff.1 hb) (ltN_tot h2 h1)
theorem hidx_keys (N : List Nd) : (hidx N).map (·.1) = N.map Nd.mark := by
 unfold hidx
 rw [List.map_map]
 have : ((fun p : Int × Int => p.1) ∘ fun p : Nd × Nat => (p.1.mark, (p.2 : Int))) = Nd.mark ∘ Prod.fst := rfl
 rw [this, ← List.map_map, List.zipIdx_map_fst]
theorem map_nd {w : World} {m : Nat} {N : List Nd} (h : MapAt vI vI w m (hidx N)) : (N.map Nd.mark).Nodup := by
 obtain ⟨es, clock, _, hs, he⟩ := h
 have := keys_pair hs he
 rw [← hidx_keys]
 exact List.pairwise_map.2 this
theorem hr_nd {S : List Nat} {w : World} {h rb : Nat} {N : List Nd} (H : HR S w h rb N) : (N.map Nd.mark).Nodup := by
 obtain ⟨v, m, _, _, hm, _⟩ := H.out
 exact map_nd hm
theorem alook_mark {N : List Nd} (hn : (N.map Nd.mark).Nodup) {i : Nat} {n : Nd} (h : N[i]? = some n) : alook (hidx N) n.mark = some (i : Int) := by
 have hp : (hidx N).Pairwise (fun a b => a.1 ≠ b.1) := by
  have := hn
  rw [← hidx_keys] at this
  exact List.pairwise_map.1 this
 exact alook_some (p := (n.mark, (i : Int))) (j := i) hp (by unfold hidx; rw [List.getElem?_map, List.getElem?_zipIdx, h]; simp) rfl
theorem setT_none {l : List Int} {x : Int} (h : x ∉ l) : alook (l.map fun m => (m, true)) x = none := alook_none fun p hp e => by
 obtain ⟨m, hm, rfl⟩ := List.mem_map.1 hp
 exact h (by rw [← e]; exact hm)
theorem rawQ_b {st : St} {dst : Option Nat} {ty : TypeId} {pos : String} {after : Array Edge} {guard : Option (Nat × Bool)} {keys : Keys} {x i : Operand} {m : Nat} {L : List (Int × Bool)} {k : Int}
  (hx : opv st keys x = some (.s (.c (.x (.map (some m)))))) (hi : opv st keys i = some (.i k)) (hm : ∀ w, Holds st w → MapAt vI vB w m L) :
  RawQ Tryz.prog st keys { dst := dst, op := .lookup 92 x i false, type := ty, pos := pos, after := after, guard := guard } (.b ((alook L k).getD false)) := by
 refine RawQ_den (rawQ_lookup (fV := CV.b) (z := .b false) (c := false) (key := k) kl3 ⟨k, rfl⟩ (fun p _ => ⟨p.1, rfl⟩) vI_inj um92 z4 (fun _ => rfl) hx hi rfl hm) ?_
 cases alook L k <;> rfl
theorem vm_get {S : List Nat} {w : World} {v : Value} {N : List Nd} {VM : List NV1} (hVM : ndsM (VM.map (·.1)) = N) {i : Nat} {n : Nd} (h : N[i]? = some n) : ∃ q : NV1, VM[i]? = some q ∧ q.1.1 = n := by
 rw [← hVM] at h
 unfold ndsM at h
 rw [List.map_map, List.getElem?_map] at h
 cases hq : VM[i]? with
 | none => rw [hq] at h; cases h
 | some q => rw [hq] at h; exact ⟨q, rfl, by simpa using h⟩
def selV (N : List Nd) (VM : List NV1) (marks : List Int) : List NV1 := marks.map fun x => VM.getD ((alook (hidx N) x).getD 0).toNat default
theorem selV_snoc {N : List Nd} {VM : List NV1} {marks : List Int} {k : Nat} {x : Int} {i : Nat} {q : NV1} (hx : marks[k]? = some x) (hi : alook (hidx N) x = some (i : Int)) (hq : VM[i]? = some q) : selV N VM (marks.take (k + 1)) = selV N VM (marks.take k) ++ [q] := by
 unfold selV
 rw [take_snoc hx, List.map_append, List.map_cons, List.map_nil, hi, Option.getD_some, Int.toNat_natCast, List.getD_eq_getElem?_getD, hq]
 rfl
theorem selV_perm {N : List Nd} {VM : List NV1} (hn : (N.map Nd.mark).Nodup) (hVM : ndsM (VM.map (·.1)) = N) {marks : List Int} (hm : marks.Perm (N.map Nd.mark)) : ((selV N VM marks).map fun q => q.1.1).Perm N := by
 have h1 : (selV N VM marks).Perm (selV N VM (N.map Nd.mark)) := hm.map _
 have h2 : selV N VM (N.map Nd.mark) = VM := by
  have hl : VM.length = N.length := by rw [← hVM]; unfold ndsM; simp
  apply List.ext_getElem?
  intro i
  unfold selV
  rw [List.map_map, List.getElem?_map]
  cases h : N[i]? with
  | none => rw [List.getElem?_eq_none (by have := List.getElem?_eq_none_iff.1 h; omega)]; rfl
  | some n =>
   obtain ⟨q, hq, _⟩ := vm_get (S := []) (w := default) (v := default) hVM h
   simp only [Option.map_some, Function.comp_apply, alook_mark hn h, Option.getD_some, Int.toNat_natCast, List.getD_eq_getElem?_getD, hq]
 rw [h2] at h1
 have h3 := h1.map fun q : NV1 => q.1.1
 have h4 : (VM.map fun q : NV1 => q.1.1) = N := by rw [← hVM]; unfold ndsM; rw [List.map_map]; rfl
 rwa [h4] at h3
theorem marks_perm (N : List Nd) : (marksB N).Perm (N.map Nd.mark) := List.mergeSort_perm _ _
theorem sorted_r (h rb : Nat) (N : List Nd) (hN : NOk N) (mv : Value) (w : World) (H : HR [] w h rb N) (hmv : SlOf intT [] w mv (marksB N)) : AnsR Tryz.prog 11 [ptr h, mv] [.row 3 1 ((sortedB N).map encI)] w := by
 obtain ⟨v, m, hb, hv, hm, _⟩ := H.out
 have hnd := map_nd hm
 have hvl := hv.len
 have hNl := hN.len
 have hml := marksB_len N
 have hln := hmv.len
 have hmp := marks_perm N
 have hmn : (marksB N).Nodup := hmp.nodup_iff.2 hnd
 obtain ⟨VM, hVM, hvm⟩ := nv_of hv
 have hVl : VM.length = N.length := by rw [← hVM]; unfold ndsM; simp
 refine calls_e [.s (.c (.e (hs h) 3 0 0)), .x mv] Tryz.func11 rfl rfl (Nat.le_of_ble_eq_true rfl) ⟨⟨_, _, _, rfl⟩, trivial⟩ fun B hB => ?_
 repeat refine zq ?_
 refine zr ?_; conv => whnf
 repeat refine zq ?_
 refine zr ?_; conv => whnf
 refine rawE_make vI vB ?_
 intro ms; conv => whnf
 repeat refine zq ?_
 refine zr ?_; conv => whnf
 repeat refine zq ?_
 refine zr ?_; conv => whnf
 refine ⟨hmv.sl, ?_⟩; conv => whnf
 repeat refine zq ?_
 refine At.block ?_
 refine At.loopH (fun p' : Nat × Value => { N := Tryz.f11.ntmps, sl := [(0, some (.s (.c (.e (hs h) 3 0 0)))), (5, some (.x ((.map (some ms))))), (6, some (.s (.c (.o 1 p'.2)))), (15, some (.x mv)), (16, some (.i ((marksB N).length))), (17, some (.i p'.1))], gl := [], hp := [(1, .row p'.2 86 18 ((selV N VM ((marksB N).take p'.1)).map encV1)), (0, mapO vI vB ms (((marksB N).take p'.1).map fun x => (x, true)))], S := [], ws := w }) (fun p' : Nat × Value => p'.1 ≤ (marksB N).length) (fun p' : Nat × Value => (marksB N).length - p'.1)
  (fun w' hw => ⟨(0, .slice none 0 0), Nat.zero_le _, Le.of rfl rfl ⟨rfl, rfl, rfl, rfl, congrArg (Value.int .i64) hln, rfl, trivial⟩, hw.nil rfl rfl rfl, ⟨⟨_, _, _, rfl⟩, ⟨_, _, _, rfl⟩, trivial⟩, ⟨(nopV1 _).okH, trivial⟩⟩) ?_
 rintro ⟨k, vl⟩ hk
 simp only at hk ⊢
 repeat refine zq ?_
 refine zr ?_; conv => whnf
 repeat refine zq ?_
 refine At.cond rfl (fun hc => At.skip ?_) (fun hc => At.exit ?_)
 ·have hlt : k < (marksB N).length := by have := of_decide_eq_true hc; omega
  obtain ⟨x, hx⟩ : ∃ x, (marksB N)[k]? = some x := ⟨_, List.getElem?_eq_getElem hlt⟩
  obtain ⟨n, hn, hnx⟩ := List.mem_map.1 (hmp.mem_iff.1 (List.mem_of_getElem? hx))
  obtain ⟨i, hi⟩ := List.getElem?_of_mem hn
  have hal : alook (hidx N) x = some (i : Int) := by rw [← hnx]; exact alook_mark hnd hi
  obtain ⟨q, hq, hqn⟩ := vm_get (S := []) (w := w) (v := v) hVM hi
  have hil := (List.getElem?_eq_some_iff.1 hi).1
  have hsn := selV_snoc (VM := VM) hx hal hq
  have hsl : (selV N VM ((marksB N).take k)).length ≤ k := by unfold selV; rw [List.length_map, List.length_take]; omega
  have hnone : alook (((marksB N).take k).map fun x => (x, true)) x = none := setT_none fun hm' => by
   obtain ⟨j, hj⟩ := List.getElem?_of_mem hm'
   rw [List.getElem?_take] at hj
   split at hj
   ·rename_i hjk
    have e1 := (List.getElem?_eq_some_iff.1 hj)
    have e2 := (List.getElem?_eq_some_iff.1 hx)
    obtain ⟨a1, b1⟩ := e1
    obtain ⟨a2, b2⟩ := e2
    have := (List.getElem_inj (xs := marksB N) (i := j) (j := k) (h₀ := a1) (h₁ := a2) hmn).1 (by rw [b1, b2])
    omega
   ·cases hj
  have hput : aput (((marksB N).take k).map fun x => (x, true)) x true = ((marksB N).take (k + 1)).map fun x => (x, true) := by
   unfold aput; rw [hnone, take_snoc hx, List.map_append]; rfl
  repeat refine zq ?_
  refine At.block ?_
  repeat refine zq ?_
  refine zr ?_; conv => whnf
  refine ⟨by omega, ?_⟩; conv => whnf
  refine ⟨by omega, ?_⟩; conv => whnf
  refine ⟨[.i x], fun w' hw => hmv.load (n := 1) hw.fr hx rfl, ?_⟩; conv => whnf
  repeat refine zq ?_
  refine zr ?_; conv => whnf
  refine ⟨[.x (.map (some m))], fun w' hw => hb.load (n := 1) (i := 0) (off := 2) hw.fr rfl rfl, ?_⟩; conv => whnf
  refine ⟨.tup [.c (.i ((alook (hidx N) x).getD 0)), .c (.b (alook (hidx N) x).isSome)], gimp_of (rawQ_h rfl rfl (fun w' hw => mapAt_fr hm hw.fr nilS)), ?_⟩; conv => whnf
  rw [hal]
  repeat refine zq ?_
  refine At.regionG tab_ok ?_; conv => whnf
  refine ⟨.b ((alook (((marksB N).take k).map fun x => (x, true)) x).getD false), gimp_of (rawQ_b rfl rfl (fun w' hw => mapO_at (hw.objs _ (look_mem (s := 0) rfl)))), ?_⟩; conv => whnf
  rw [hnone]
  repeat refine zq ?_
  refine At.cond (t := true) rfl (fun _ => ?_) (fun hq => by cases hq)
  repeat refine zq ?_
  refine zr ?_; conv => whnf
  refine rawE_update (id := 0) (key := x) (v := true) kl3 ⟨x, rfl⟩ (fun p _ => ⟨p.1, rfl⟩) vI_inj um92 rfl rfl rfl rfl rfl rfl ?_; conv => whnf
  repeat refine zq ?_
  refine zr ?_; conv => whnf
  refine ⟨[.x v], fun w' hw => hb.load (n := 1) (i := 0) (off := 1) hw.fr rfl rfl, ?_⟩; conv => whnf
  refine ⟨by simp only [Option.getD_some]; omega, ?_⟩; conv => whnf
  refine ⟨by simp only [Option.getD_some]; omega, ?_⟩; conv => whnf
  refine ⟨encV1 q, fun w' hw => hvm.load (n := 18) hw.fr (by rw [List.getElem?_map, hq]; rfl) rfl, ?_⟩; conv => whnf
  refine ⟨q.2.1, ?_⟩; conv => whnf
  refine ⟨q.2.2.1, ?_⟩; conv => whnf
  refine ⟨q.2.2.2.1, ?_⟩; conv => whnf
  refine ⟨q.2.2.2.2, ?_⟩; conv => whnf
  intro v4; conv => whnf
  refine ⟨rfl, ?_⟩; conv => whnf
  refine ⟨q.2.1, ?_⟩; conv => whnf
  refine ⟨q.2.2.1, ?_⟩; conv => whnf
  refine ⟨q.2.2.2.1, ?_⟩; conv => whnf
  refine ⟨q.2.2.2.2, ?_⟩; conv => whnf
  refine ⟨⟨rfl, by simp; omega⟩, ?_⟩; conv => whnf
  intro v5; conv => whnf
  repeat refine zq ?_
  refine zr ?_; conv => whnf
  refine ⟨⟨by omega, by omega⟩, ?_⟩; conv => whnf
  refine At.nextH fun w' hw => ⟨(k + 1, v5), by simp only; omega, by simp only; omega, Le.of rfl rfl ⟨rfl, rfl, rfl, rfl, rfl, rfl, trivial⟩, hw.keep [1, 0] (by simp only [hput, hsn, List.map_append]; rfl) rfl rfl, ⟨⟨_, _, _, rfl⟩, ⟨_, _, _, rfl⟩, trivial⟩, ⟨(nopV1 _).okH, trivial⟩⟩
 ·have hge : k = (marksB N).length := by have := of_decide_eq_false hc; omega
  subst hge
  rw [List.take_length]
  have hsp := selV_perm hnd hVM hmp
  have hsl : (selV N VM (marksB N)).length = N.length := by unfold selV; rw [List.length_map]; exact hml
  generalize selV N VM (marksB N) = xs at hsp hsl
  repeat refine zq ?_
  refine zr ?_; conv => whnf
  refine row_call (id := 1) b42 rfl (fun r v' L' => r = .tup [] ∧ v' = vl ∧ ∃ ys : List NV1, L' = ys.map encV1 ∧ ys.Perm xs ∧ ys.Pairwise (fun a b => ¬ ltN b.1.1 a.1.1)) (fun w' hw => ?_) ?_
  ·refine (sortN_c xs vl w' (hw.row (id := 1) rfl) (by omega)).mono ?_
   rintro e w'' ⟨ys, he, h1, h2, h3, h4⟩
   exact ⟨.tup [], vl, _, he, ⟨rfl, rfl, ys, rfl, h1, h2⟩, h3, h4, fun b hb => .inl hb⟩
  rintro r v3 L' ⟨rfl, rfl, ys, rfl, hperm, hsort⟩ hsl'
  refine ⟨fun v hv => (by cases hv), nopV1 _, ?_⟩; conv => whnf
  have hyl : ys.length = N.length := by rw [hperm.length_eq]; exact hsl
  have hcan : ys.map (fun q => q.1.1) = canB N := can_uniq hnd ((hperm.map _).trans hsp) (by rw [List.pairwise_map]; exact hsort)
  have hso : sortedB N = ys.map (fun q => q.1.1.mark) := by unfold sortedB; rw [← hcan, List.map_map]; rfl
  repeat refine zq ?_
  refine zr ?_; conv => whnf
  repeat refine zq ?_
  refine zr ?_; conv => whnf
  refine ⟨rfl, ?_⟩; conv => whnf
  repeat refine zq ?_
  refine At.block ?_
  refine At.loopH (fun p' : Nat × Value => { N := Tryz.f11.ntmps, sl := [(11, some (.s (.c (.o 2 p'.2)))), (52, some (.s (.c (.o 1 v3)))), (53, some (.i ys.length)), (54, some (.i p'.1))], gl := [], hp := [(2, .row p'.2 3 1 (((ys.take p'.1).map (fun q => q.1.1.mark)).map encI)), (1, .row v3 86 18 (ys.map encV1))], S := [], ws := w }) (fun p' : Nat × Value => p'.1 ≤ ys.length) (fun p' : Nat × Value => ys.length - p'.1)
   (fun w' hw => ⟨(0, .slice none 0 0), Nat.zero_le _, Le.of rfl rfl ⟨rfl, rfl, congrArg (Value.int .i64) (by simp), rfl, trivial⟩, Holds.nilK hw [1] rfl rfl rfl, ⟨⟨_, _, _, rfl⟩, ⟨_, _, _, rfl⟩, trivial⟩, ⟨(nopI _).okH, (nopV1 _).okH, trivial⟩⟩) ?_
  rintro ⟨k, vo⟩ hk
  simp only at hk ⊢
  repeat refine zq ?_
  refine zr ?_; conv => whnf
  repeat refine zq ?_
  refine At.cond rfl (fun hc => At.skip ?_) (fun hc => At.exit ?_)
  ·have hlty : k < ys.length := by have := of_decide_eq_true hc; omega
   obtain ⟨y, hy⟩ : ∃ x, ys[k]? = some x := ⟨_, List.getElem?_eq_getElem hlty⟩
   have hlt : k < ys.length := by have := of_decide_eq_true hc; omega
   have hone := y.2
   repeat refine zq ?_
   refine At.block ?_
   repeat refine zq ?_
   refine zr ?_; conv => whnf
   refine ⟨rfl, ?_⟩; conv => whnf
   refine ⟨by omega, ?_⟩; conv => whnf
   refine ⟨by (try simp only [List.length_map]); omega, ?_⟩; conv => whnf
   refine ⟨encV1 y, ⟨rfl, rfl, by omega, by rw [Int.toNat_natCast, List.getElem?_map, hy]; rfl⟩, ?_⟩; conv => whnf
   intro b7; conv => whnf
   refine ⟨hone.1, ?_⟩; conv => whnf
   refine ⟨hone.2.1, ?_⟩; conv => whnf
   refine ⟨hone.2.2.1, ?_⟩; conv => whnf
   refine ⟨hone.2.2.2, ?_⟩; conv => whnf
   repeat refine zq ?_
   refine zr ?_; conv => whnf
   intro v6; conv => whnf
   refine ⟨rfl, ?_⟩; conv => whnf
   refine ⟨⟨rfl, by simp; omega⟩, ?_⟩; conv => whnf
   intro v7; conv => whnf
   repeat refine zq ?_
   refine zr ?_; conv => whnf
   refine ⟨⟨by omega, by omega⟩, ?_⟩; conv => whnf
   refine At.nextH fun w' hw => ⟨(k + 1, v7), by simp only; omega, by simp only; omega, Le.of rfl rfl ⟨rfl, rfl, rfl, rfl, trivial⟩, hw.keep [2, 1] ?_ rfl rfl, ⟨⟨_, _, _, rfl⟩, ⟨_, _, _, rfl⟩, trivial⟩, ⟨(nopI _).okH, (nopV1 _).okH, trivial⟩⟩
   show [(2, LO.row v7 3 1 _), (1, LO.row v3 86 18 _)] = [(2, LO.row v7 3 1 _), (1, LO.row v3 86 18 _)]
   rw [take_snoc hy, List.map_append, List.map_append]
   rfl
  ·have hge : k = ys.length := by have := of_decide_eq_false hc; omega
   subst hge
   rw [List.take_length]
   repeat refine zq ?_
   refine zr ?_; conv => whnf
   repeat refine zq ?_
   refine At.ret (At.doneB tab_ok hB _ rfl fun w' hw => by rw [hso]; exact ansR_row (id := 2) hw rfl rfl rfl)
end Go.Proofs.YtdigebokbhmfaaaGreatDoor.Ap
namespace Go.Vc
theorem Holds.recast {st st' : St} {w : World} (h : Holds st w) (ids : List Nat) {old new rest : List LO} (h1 : (keepIds ids st.hp).map Prod.snd = old ++ rest) (h2 : st'.hp.map Prod.snd = new ++ rest)
  (ho : (∀ o ∈ old, o.holds w) → (old.flatMap LO.blks).Nodup → (∀ o ∈ new, o.holds w) ∧ (new.flatMap LO.blks).Nodup ∧ ∀ b ∈ new.flatMap LO.blks, b ∈ old.flatMap LO.blks) (h3 : st'.S = st.S) (h4 : st'.ws = st.ws) : Holds st' w := by
 have hk : Holds { st with hp := keepIds ids st.hp } w := h.keep ids rfl rfl rfl
 have e : ∀ s : St, s.blks = (s.hp.map Prod.snd).flatMap LO.blks := fun s => by unfold St.blks; rw [List.flatMap_map]
 have hn := hk.nodup
 have hown := hk.own
 rw [e] at hn
 simp only [e] at hown
 have h1' : (({ st with hp := keepIds ids st.hp } : St).hp.map Prod.snd) = old ++ rest := h1
 rw [h1', List.flatMap_append, List.nodup_append] at hn
 rw [h1'] at hown
 have hobj : ∀ o ∈ old ++ rest, o.holds w := fun o hm => by
  rw [← h1] at hm
  obtain ⟨q, hq, rfl⟩ := List.mem_map.1 hm
  exact hk.objs q hq
 obtain ⟨a1, a2, a3⟩ := ho (fun o hm => hobj o (List.mem_append.2 (.inl hm))) hn.1
 refine ⟨fun o hm => ?_, ?_, by rw [h3, h4]; exact h.fr, fun b hb => ?_⟩
 ·have : o.2 ∈ new ++ rest := by rw [← h2]; exact List.mem_map.2 ⟨o, hm, rfl⟩
  rcases List.mem_append.1 this with hm | hm
  ·exact a1 _ hm
  ·exact hobj _ (List.mem_append.2 (.inr hm))
 ·rw [e, h2, List.flatMap_append, List.nodup_append]
  exact ⟨a2, hn.2.1, fun x hx y hy => hn.2.2 x (a3 x hx) y hy⟩
 ·rw [e, h2, List.flatMap_append] at hb
  rw [h3, h4]
  refine hown b ?_
  rw [List.flatMap_append]
  rcases List.mem_append.1 hb with hb | hb
  ·exact List.mem_append.2 (.inl (a3 b hb))
  ·exact List.mem_append.2 (.inr hb)
theorem Holds.rebox {st st' : St} {w : World} (h : Holds st w) (ids : List Nat) {b : Nat} {T : TypeId} {c c' : List CV} {rest : List LO} (h1 : (keepIds ids st.hp).map Prod.snd = .box b T c :: rest) (h2 : st'.hp.map Prod.snd = .box b T c' :: rest) (h3 : st'.S = st.S) (h4 : st'.ws = st.ws) (e : dens c' = dens c) : Holds st' w :=
 h.recast ids (old := [.box b T c]) (new := [.box b T c']) (rest := rest) h1 h2 (fun ho hn => ⟨fun o hm => by
  rw [List.mem_singleton.1 hm]
  have := ho _ (List.mem_singleton.2 rfl)
  show w.heap[b]? = some (.cells (dens c').toArray T (0, 0))
  rw [e]; exact this, hn, fun b hb => hb⟩) h3 h4
theorem Holds.boxAt {st st' : St} {w : World} (h : Holds st w) (pre post : List LO) {b : Nat} {T : TypeId} {c c' : List CV} (h1 : st.hp.map Prod.snd = pre ++ .box b T c :: post) (h2 : st'.hp.map Prod.snd = pre ++ .box b T c' :: post) (h3 : st'.S = st.S) (h4 : st'.ws = st.ws) (e : dens c' = dens c) : Holds st' w := by
 have eb : ∀ s : St, s.blks = (s.hp.map Prod.snd).flatMap LO.blks := fun s => by unfold St.blks; rw [List.flatMap_map]
 have hb : st'.blks = st.blks := by rw [eb, eb, h1, h2]; simp [LO.blks]
 refine ⟨fun o ho => ?_, by rw [hb]; exact h.nodup, by rw [h3, h4]; exact h.fr, fun b hb' => by rw [h3, h4]; exact h.own b (by rw [← hb]; exact hb')⟩
 have hm : o.2 ∈ pre ++ .box b T c' :: post := by rw [← h2]; exact List.mem_map.2 ⟨o, ho, rfl⟩
 have key : ∀ q ∈ pre ++ .box b T c :: post, q.holds w := fun q hq => by
  rw [← h1] at hq
  obtain ⟨p, hp, rfl⟩ := List.mem_map.1 hq
  exact h.objs p hp
 rcases List.mem_append.1 hm with hm | hm
 ·exact key _ (List.mem_append.2 (.inl hm))
 ·rcases List.mem_cons.1 hm with hm | hm
  ·rw [hm]
   have := key (.box b T c) (by simp)
   show w.heap[b]? = some (.cells (dens c').toArray T (0, 0))
   rw [e]; exact this
  ·exact key _ (List.mem_append.2 (.inr (List.mem_cons_of_mem _ hm)))
theorem Holds.nilBox {st st' : St} {w : World} (h : Holds st w) (pre post : List LO) {E size b : Nat} {T : TypeId} {c c' : List CV} (h1 : st.hp.map Prod.snd = pre ++ .box b T c :: post) (h2 : st'.hp.map Prod.snd = .row (.slice none 0 0) E size [] :: (pre ++ .box b T c' :: post)) (h3 : st'.S = st.S) (h4 : st'.ws = st.ws) (e : dens c' = dens c) : Holds st' w := by
 have hz : ∀ l : List LO, (l.map fun q => ((0 : Nat), q)).map Prod.snd = l := fun l => by rw [List.map_map]; exact List.map_id _
 have hk : Holds { st with hp := (pre ++ .box b T c' :: post).map fun q => (0, q) } w := h.boxAt pre post h1 (hz _) rfl rfl e
 have hn : Holds { st with hp := (0, .row (.slice none 0 0) E size []) :: (pre ++ .box b T c' :: post).map fun q => (0, q) } w := hk.nil rfl rfl rfl
 exact hn.renP (by
  show List.Perm (st'.hp.map Prod.snd) (((0, LO.row (.slice none 0 0) E size []) :: (pre ++ .box b T c' :: post).map fun q => (0, q)).map Prod.snd)
  rw [List.map_cons, hz, h2]) h3 h4
theorem keepIds_all (l : List LO) : keepIds [0] (l.map fun q => (0, q)) = l.map fun q => (0, q) := by
 induction l with
 | nil => rfl
 | cons x r ih => rw [List.map_cons]; simp only [keepIds, List.any_cons, List.any_nil, Nat.beq_refl, Bool.or_false]; rw [ih]
theorem map_zero (l : List LO) : (l.map fun q => ((0 : Nat), q)).map Prod.snd = l := by
 rw [List.map_map]; exact List.map_id _
theorem Holds.boxK {st st' : St} {w : World} (h : Holds st w) (ids : List Nat) (pre post : List LO) {b : Nat} {T : TypeId} {c c' : List CV} (h1 : (keepIds ids st.hp).map Prod.snd = pre ++ .box b T c :: post) (h2 : st'.hp.map Prod.snd = pre ++ .box b T c' :: post) (h3 : st'.S = st.S) (h4 : st'.ws = st.ws) (e : dens c' = dens c) : Holds st' w := by
 have hk : Holds { st with hp := keepIds ids st.hp } w := h.keep ids rfl rfl rfl
 exact hk.boxAt pre post h1 h2 h3 h4 e
theorem Holds.recastB {st st' : St} {w : World} (h : Holds st w) {x o n1 n2 : LO} {rest : List LO} (h1 : st.hp.map Prod.snd = x :: o :: rest) (h2 : st'.hp.map Prod.snd = n1 :: n2 :: x :: rest)
  (ho : (∀ q ∈ [o], q.holds w) → (∀ q ∈ [n1, n2], q.holds w) ∧ ([n1, n2].flatMap LO.blks).Nodup ∧ ∀ b ∈ [n1, n2].flatMap LO.blks, b ∈ [o].flatMap LO.blks) (h3 : st'.S = st.S) (h4 : st'.ws = st.ws) : Holds st' w := by
 have hk : Holds { st with hp := (o :: x :: rest).map fun q => (0, q) } w := h.renP (by
  show List.Perm (((o :: x :: rest).map fun q => ((0 : Nat), q)).map Prod.snd) _
  rw [map_zero, h1]; exact List.Perm.swap x o rest) rfl rfl
 exact hk.recast (st' := st') [0] (old := [o]) (new := [n1, n2]) (rest := x :: rest) (by
  show (keepIds [0] ((o :: x :: rest).map fun q => (0, q))).map Prod.snd = _
  rw [keepIds_all, map_zero]; rfl) h2 (fun a _ => ho a) h3 h4
end Go.Vc
namespace Go.Proofs.YtdigebokbhmfaaaGreatDoor.Ap
open Go.Vc Rt Go.Bs
section
variable {K V : Type} [DecidableEq K]
theorem alook_cons (p : K × V) (r : List (K × V)) (k : K) : alook (p :: r) k = if p.1 = k then some p.2 else alook r k := by
 unfold alook
 rw [List.find?_cons]
 by_cases h : p.1 = k
 ·rw [decide_eq_true h, if_pos h]; rfl
 ·rw [decide_eq_false h, if_neg h]
theorem alook_nil (k : K) : alook ([] : List (K × V)) k = none := rfl
theorem alook_map (k k' : K) (v : V) : ∀ L : List (K × V), alook (L.map fun p => if p.1 = k then (k, v) else p) k' = if k' = k then (alook L k').map (fun _ => v) else alook L k'
 | [] => by simp [alook]
 | p :: r => by
  rw [List.map_cons, alook_cons, alook_cons, alook_map k k' v r]
  by_cases h : p.1 = k
  ·rw [if_pos h]
   by_cases h2 : k = k'
   ·subst h2; simp [h]
   ·have h3 : ¬ k' = k := fun e => h2 e.symm
    have h4 : ¬ p.1 = k' := fun e => h2 (h.symm.trans e)
    simp [h2, h3, h4]
  ·rw [if_neg h]
   by_cases h2 : p.1 = k'
   ·have h3 : ¬ k' = k := fun e => h (h2.trans e)
    simp [h2, h3]
   ·simp only [h2, if_false]
theorem alook_append (L M : List (K × V)) (k : K) : alook (L ++ M) k = (alook L k).or (alook M k) := by
 induction L with
 | nil => simp [alook_nil]
 | cons p r ih =>
  rw [List.cons_append, alook_cons, alook_cons, ih]
  split <;> simp
theorem alook_aput (L : List (K × V)) (k k' : K) (v : V) : alook (aput L k v) k' = if k' = k then some v else alook L k' := by
 unfold aput
 split
 ·rename_i h
  rw [alook_map]
  by_cases h2 : k' = k
  ·subst h2
   obtain ⟨u, hu⟩ := Option.isSome_iff_exists.1 h
   simp [hu]
  ·simp only [h2, if_false]
 ·rename_i h
  rw [alook_append, alook_cons, alook_nil]
  by_cases h2 : k' = k
  ·subst h2
   have : alook L k' = none := by simpa using h
   simp [this]
  ·have h3 : ¬ k = k' := fun e => h2 e.symm
   simp [h2, h3]
theorem alook_isSome {L : List (K × V)} {k : K} : (alook L k).isSome = true ↔ k ∈ L.map (·.1) := by
 induction L with
 | nil => simp [alook_nil]
 | cons p r ih =>
  rw [alook_cons, List.map_cons, List.mem_cons, ← ih]
  by_cases h : p.1 = k
  ·simp [h]
  ·have h' : ¬ k = p.1 := fun e => h e.symm
   simp [h, h']
theorem aput_mem {L : List (K × V)} {k : K} {v : V} {p : K × V} (h : p ∈ aput L k v) : p = (k, v) ∨ p ∈ L := by
 unfold aput at h
 split at h
 ·obtain ⟨q, hq, rfl⟩ := List.mem_map.1 h
  split
  ·exact .inl rfl
  ·exact .inr hq
 ·rcases List.mem_append.1 h with h | h
  ·exact .inr h
  ·exact .inl (List.mem_singleton.1 h)
theorem alook_mem {L : List (K × V)} {k : K} {v : V} (h : alook L k = some v) : (k, v) ∈ L := by
 induction L with
 | nil => cases h
 | cons p r ih =>
  rw [alook_cons] at h
  split at h
  ·rename_i e
   cases h
   subst e
   exact List.mem_cons_self ..
  ·exact List.mem_cons_of_mem _ (ih h)
end
theorem keys_aput {V W : Type} {L : List (Int × V)} {M : List (Int × W)} (h : L.map (·.1) = M.map (·.1)) (k : Int) (v : V) (u : W) : (aput L k v).map (·.1) = (aput M k u).map (·.1) := by
 have e : (alook L k).isSome = (alook M k).isSome := by
  rw [Bool.eq_iff_iff, alook_isSome, alook_isSome, h]
 rw [aput_keys, aput_keys, e, h]
structure OwnX (ex : Option Int) (Bs : List Nat) (w : World) (vs : List (Int × Value)) (L : List (Int × List Int)) : Prop where
 row : ∀ a v, alook vs a = some v → ex ≠ some a → ∃ l, alook L a = some l ∧ (LO.row v 3 1 (l.map encI)).holds w ∧ ∀ b ∈ blkOf v, b ∈ Bs
 dis : ∀ a c v u, a ≠ c → alook vs a = some v → alook vs c = some u → ex ≠ some a → ex ≠ some c → ∀ b ∈ blkOf v, b ∉ blkOf u
theorem OwnX.agree {ex : Option Int} {Bs : List Nat} {w w' : World} {vs : List (Int × Value)} {L : List (Int × List Int)} (h : OwnX ex Bs w vs L) (ha : ∀ b ∈ Bs, w'.heap[b]? = w.heap[b]?) : OwnX ex Bs w' vs L :=
 ⟨fun a v h1 h2 => by obtain ⟨l, e1, e2, e3⟩ := h.row a v h1 h2; exact ⟨l, e1, row_agree e2 fun b hb => ha b (e3 b hb), e3⟩, h.dis⟩
def ownO (ex : Option Int) (Bs : List Nat) (vs : List (Int × Value)) (L : List (Int × List Int)) : LO := .ab Bs (fun w => OwnX ex Bs w vs L)
theorem ownO_nil : ∀ w, (ownO none [] [] []).holds w := fun w => ⟨fun b hb => (by cases hb), fun w' _ => ⟨fun a v h => (by cases h), fun a c v u _ h => (by cases h)⟩⟩
theorem own_split {Bs : List Nat} {vs : List (Int × Value)} {L : List (Int × List Int)} {a : Int} {v : Value} {l : List Int} {w : World} (hv : alook vs a = some v) (hl : alook L a = some l) (h : ∀ o ∈ [ownO none Bs vs L], o.holds w) :
  (∀ o ∈ [LO.row v 3 1 (l.map encI), ownO (some a) (Bs.filter fun b => !(blkOf v).contains b) vs L], o.holds w) ∧ ([LO.row v 3 1 (l.map encI), ownO (some a) (Bs.filter fun b => !(blkOf v).contains b) vs L].flatMap LO.blks).Nodup ∧
  ∀ b ∈ [LO.row v 3 1 (l.map encI), ownO (some a) (Bs.filter fun b => !(blkOf v).contains b) vs L].flatMap LO.blks, b ∈ [ownO none Bs vs L].flatMap LO.blks := by
 obtain ⟨h1, h2⟩ := h _ (List.mem_singleton.2 rfl)
 have hq := h2 w fun _ _ => rfl
 obtain ⟨l', e1, e2, e3⟩ := hq.row a v hv (by simp)
 rw [hl] at e1
 cases e1
 have hx : OwnX (some a) (Bs.filter fun b => !(blkOf v).contains b) w vs L := by
  refine ⟨fun c u hu hc => ?_, fun c d u u' hne hu hu' hc hd => hq.dis c d u u' hne hu hu' (by simp) (by simp)⟩
  obtain ⟨l', f1, f2, f3⟩ := hq.row c u hu (by simp)
  refine ⟨l', f1, f2, fun b hb => List.mem_filter.2 ⟨f3 b hb, ?_⟩⟩
  have hne : c ≠ a := fun e => hc (by rw [e])
  have := hq.dis c a u v hne hu hv (by simp) (by simp) b hb
  simpa using this
 refine ⟨fun o ho => ?_, ?_, fun b hb => ?_⟩
 ·simp only [List.mem_cons, List.not_mem_nil, or_false] at ho
  rcases ho with rfl | rfl
  ·exact e2
  ·exact ⟨fun b hb => h1 b (List.mem_filter.1 hb).1, fun w' ha => hx.agree ha⟩
 ·simp only [List.flatMap_cons, List.flatMap_nil, List.append_nil]
  refine List.nodup_append.2 ⟨LO.blks_nodup _, LO.blks_nodup _, fun x hx y hy e => ?_⟩
  subst e
  have := (List.mem_filter.1 (mem_nub.1 hy)).2
  simp only [Bool.not_eq_true', List.contains_eq_mem, decide_eq_false_iff_not] at this
  exact this hx
 ·simp only [List.flatMap_cons, List.flatMap_nil, List.append_nil] at hb ⊢
  rcases List.mem_append.1 hb with hb | hb
  ·exact mem_nub.2 (e3 b hb)
  ·exact mem_nub.2 (List.mem_filter.1 (mem_nub.1 hb)).1
theorem own_merge {ex : Option Int} {Bs : List Nat} {vs : List (Int × Value)} {L : List (Int × List Int)} {a : Int} {v : Value} {l : List Int} {w : World} (hex : ex = some a ∨ (ex = none ∧ alook vs a = none)) (h : ∀ o ∈ [LO.row v 3 1 (l.map encI), ownO ex Bs vs L], o.holds w) (hn : ([LO.row v 3 1 (l.map encI), ownO ex Bs vs L].flatMap LO.blks).Nodup) :
  (∀ o ∈ [ownO none (blkOf v ++ Bs) (aput vs a v) (aput L a l)], o.holds w) ∧ ([ownO none (blkOf v ++ Bs) (aput vs a v) (aput L a l)].flatMap LO.blks).Nodup ∧
  ∀ b ∈ [ownO none (blkOf v ++ Bs) (aput vs a v) (aput L a l)].flatMap LO.blks, b ∈ [LO.row v 3 1 (l.map encI), ownO ex Bs vs L].flatMap LO.blks := by
 have hr := h (.row v 3 1 (l.map encI)) (by simp)
 obtain ⟨h1, h2⟩ := h (ownO ex Bs vs L) (by simp)
 have hq := h2 w fun _ _ => rfl
 simp only [List.flatMap_cons, List.flatMap_nil, List.append_nil] at hn
 have hdis : ∀ b ∈ blkOf v, b ∉ Bs := fun b hb hm => (List.nodup_append.1 hn).2.2 b hb b (mem_nub.2 hm) rfl
 have hexc : ∀ c u, c ≠ a → alook vs c = some u → ex ≠ some c := fun c u hc hu e => by
  rcases hex with e' | ⟨e', _⟩
  ·rw [e'] at e; exact hc (Option.some.inj e).symm
  ·rw [e'] at e; cases e
 have hx : OwnX none (blkOf v ++ Bs) w (aput vs a v) (aput L a l) := by
  refine ⟨fun c u hu _ => ?_, fun c d u u' hne hu hu' _ _ b hb hb' => ?_⟩
  ·rw [alook_aput] at hu
   rw [alook_aput]
   split at hu
   ·rename_i e
    cases hu
    subst e
    rw [if_pos rfl]
    exact ⟨l, rfl, hr, fun b hb => List.mem_append.2 (.inl hb)⟩
   ·rename_i e
    rw [if_neg e]
    obtain ⟨l', f1, f2, f3⟩ := hq.row c u hu (hexc c u e hu)
    exact ⟨l', f1, f2, fun b hb => List.mem_append.2 (.inr (f3 b hb))⟩
  ·rw [alook_aput] at hu hu'
   split at hu
   ·rename_i e
    cases hu
    subst e
    rw [if_neg (fun e => hne e.symm)] at hu'
    obtain ⟨_, _, _, f3⟩ := hq.row d u' hu' (hexc d u' (fun e => hne e.symm) hu')
    exact hdis b hb (f3 b hb')
   ·rename_i e
    obtain ⟨_, _, _, f3⟩ := hq.row c u hu (hexc c u e hu)
    split at hu'
    ·cases hu'
     exact hdis b hb' (f3 b hb)
    ·rename_i e2
     exact hq.dis c d u u' hne hu hu' (hexc c u e hu) (hexc d u' e2 hu') b hb hb'
 refine ⟨fun o ho => ?_, ?_, fun b hb => ?_⟩
 ·rw [List.mem_singleton.1 ho]
  refine ⟨fun b hb => ?_, fun w' ha => hx.agree ha⟩
  rcases List.mem_append.1 hb with hb | hb
  ·exact LO.blk_lt hr b hb
  ·exact h1 b hb
 ·simp only [List.flatMap_cons, List.flatMap_nil, List.append_nil]
  exact LO.blks_nodup _
 ·simp only [List.flatMap_cons, List.flatMap_nil, List.append_nil] at hb ⊢
  rcases List.mem_append.1 (mem_nub.1 hb) with hb | hb
  ·exact List.mem_append.2 (.inl hb)
  ·exact List.mem_append.2 (.inr (mem_nub.2 hb))
end Go.Proofs.YtdigebokbhmfaaaGreatDoor.Ap
namespace Go.Proofs.YtdigebokbhmfaaaGreatDoor.Ap
open Go.Vc Rt Go.Bs
theorem testB_eq (ws : List Nat) (i : Nat) : testB ws i = (ws.getD (i / 64) 0).testBit (i % 64) := by
 unfold testB
 by_cases h : i / 64 < ws.length
 ·rw [decide_eq_true h, Bool.true_and]
 ·rw [decide_eq_false h, Bool.false_and, List.getD_eq_getElem?_getD, List.getElem?_eq_none (by omega)]; simp
theorem getD_grow (ws : List Nat) (n k : Nat) : (growTo ws n).getD k 0 = ws.getD k 0 := by
 unfold growTo
 rw [List.getD_eq_getElem?_getD, List.getD_eq_getElem?_getD, List.getElem?_append]
 split
 ·rfl
 ·rename_i h
  rw [List.getElem?_eq_none (l := ws) (by omega), List.getElem?_replicate]
  split <;> rfl
theorem testB_nil (j : Nat) : testB [] j = false := by rw [testB_eq]; simp
theorem testB_set (ws : List Nat) (i j : Nat) : testB (setB ws i) j = (decide (j = i) || testB ws j) := by
 rw [testB_eq, testB_eq]
 unfold setB
 have hlen : i / 64 < (growTo ws (i / 64 + 1)).length := by rw [grow_len]; omega
 rw [List.getD_eq_getElem?_getD, List.getElem?_set]
 by_cases h : i / 64 = j / 64
 ·rw [if_pos h, if_pos hlen, Option.getD_some, getD_grow, Nat.testBit_or, Nat.testBit_two_pow, Bool.or_comm, h]
  congr 1
  rw [decide_eq_decide]
  omega
 ·rw [if_neg h, ← List.getD_eq_getElem?_getD, getD_grow, decide_eq_false (fun e => h (by rw [e])), Bool.false_or]
theorem getD_orUpTo (ws b : List Nat) : ∀ (k j : Nat), k ≤ ws.length → (orUpTo ws b k).getD j 0 = if j < k then ws.getD j 0 ||| b.getD j 0 else ws.getD j 0
 | 0, j, _ => by simp [orUpTo]
 | k + 1, j, hk => by
  have ih := fun j => getD_orUpTo ws b k j (by omega)
  have hl : k < (orUpTo ws b k).length := by rw [orUpTo_len]; omega
  rw [orUpTo, List.getD_eq_getElem?_getD, List.getElem?_set]
  by_cases h : k = j
  ·subst h
   rw [if_pos rfl, if_pos hl, Option.getD_some, ih, if_neg (by omega), if_pos (by omega)]
  ·rw [if_neg h, ← List.getD_eq_getElem?_getD, ih]
   by_cases h2 : j < k
   ·rw [if_pos h2, if_pos (by omega)]
   ·rw [if_neg h2, if_neg (by omega)]
theorem testB_union (a b : List Nat) (j : Nat) : testB (unionB a b) j = (testB a j || testB b j) := by
 rw [testB_eq, testB_eq, testB_eq]
 unfold unionB
 rw [getD_orUpTo _ _ _ _ (by rw [grow_len]; omega), getD_grow]
 split
 ·rw [Nat.testBit_or]
 ·rename_i h
  rw [List.getD_eq_getElem?_getD (l := b), List.getElem?_eq_none (by omega)]
  simp
theorem idxL_look {R : List SK} {p : SK} {i : Int} (h : alook (idxL R) p = some i) : ∃ j : Nat, i = (j : Int) ∧ R[j]? = some p := by
 have h1 := alook_mem h
 obtain ⟨q, hq, e⟩ := List.mem_map.1 h1
 obtain ⟨a, j⟩ := q
 have h3 := List.mem_zipIdx_iff_getElem?.1 hq
 simp only [Prod.mk.injEq] at e h3
 exact ⟨j, e.2.symm, by rw [← e.1]; exact h3⟩
theorem validR_iff {R : List SK} {k : Int} {t : List UInt8} {mk : Int} : validR R k t mk = true ↔ alook (idxL R) (k, t) = some mk := by
 unfold validR
 cases h : alook (idxL R) (k, t) with
 | none => simp
 | some i => simp
theorem valid_core {R : List SK} {k k' : Int} {t t' : List UInt8} {mk : Int} (h : validR R k t mk = true) (h' : validR R k' t' mk = true) : k = k' ∧ t = t' := by
 obtain ⟨j, e, hj⟩ := idxL_look (validR_iff.1 h)
 obtain ⟨j', e', hj'⟩ := idxL_look (validR_iff.1 h')
 have : j = j' := by omega
 subst this
 rw [hj] at hj'
 simpa using hj'
theorem idxL_app {R R' : List SK} {p : SK} {i : Int} (h : alook (idxL R) p = some i) : alook (idxL (R ++ R')) p = some i := by
 have e : idxL (R ++ R') = idxL R ++ (R'.zipIdx R.length).map fun p => (p.1, (p.2 : Int)) := by unfold idxL; rw [List.zipIdx_append, List.map_append]; simp
 rw [e, alook_append, h]; rfl
def RLe (R R' : List SK) : Prop := ∃ S, R' = R ++ S
theorem RLe.refl (R : List SK) : RLe R R := ⟨[], by simp⟩
theorem RLe.trans {A B C : List SK} (h : RLe A B) (h' : RLe B C) : RLe A C := by
 obtain ⟨S, rfl⟩ := h
 obtain ⟨T, rfl⟩ := h'
 exact ⟨S ++ T, by simp⟩
theorem valid_le {R R' : List SK} (h : RLe R R') {k : Int} {t : List UInt8} {mk : Int} (hv : validR R k t mk = true) : validR R' k t mk = true := by
 obtain ⟨S, rfl⟩ := h
 exact validR_iff.2 (idxL_app (validR_iff.1 hv))
def GN (R : List SK) (N : List Nd) : Prop := ∀ (i : Nat) n, N[i]? = some n → addB R (N.take i) n.key n.text n.mark = (N.take i ++ [n], 0)
theorem GN.nil (R : List SK) : GN R [] := fun i n h => by simp at h
structure AddOk (R : List SK) (N : List Nd) (n : Nd) : Prop where
 valid : validR R n.key n.text n.mark = true
 ok : (readE n.text).2 = 0
 ent : n.e = (readE n.text).1
 author : n.e.author = n.key
 fresh : alook (hidx N) n.mark = none
 knows : (downB N n.e.knows [] true).2 = true
 ref : (n.e.ref ≠ -1 ∧ n.e.kind ≠ 8) → refB N n.past n.e.ref = true
 room : N.length < 4000
 level : n.level = levelB N n.e.knows
 past : n.past = (downB N n.e.knows [] true).1
theorem addB_inv {R : List SK} {N : List Nd} {n : Nd} (h : addB R N n.key n.text n.mark = (N ++ [n], 0)) : AddOk R N n := by
 unfold addB at h
 have ne : ∀ l : List Nd, N ≠ N ++ [n] := fun l e => by have := congrArg List.length e; simp at this
 split at h
 ·exact absurd (congrArg Prod.fst h) (ne [])
 rename_i h1
 split at h
 ·exact absurd (congrArg Prod.fst h) (ne [])
 rename_i h2
 split at h
 ·exact absurd (congrArg Prod.fst h) (ne [])
 rename_i h3
 split at h
 ·exact absurd (congrArg Prod.fst h) (ne [])
 rename_i h4
 split at h
 ·exact absurd (congrArg Prod.fst h) (ne [])
 rename_i h5
 split at h
 ·exact absurd (congrArg Prod.fst h) (ne [])
 rename_i h6
 have e : (⟨n.key, n.text, n.mark, (readE n.text).1, levelB N (readE n.text).1.knows, (downB N (readE n.text).1.knows [] true).1⟩ : Nd) = n := by
  have := congrArg Prod.fst h
  simp only [List.append_cancel_left_eq, List.cons.injEq, and_true] at this
  exact this
 have ee : n.e = (readE n.text).1 := by rw [← e]
 have el := congrArg Nd.level e
 have ep := congrArg Nd.past e
 dsimp only at el ep
 refine ⟨by simpa using h1, ?_, ee, ?_, by simpa using h3, by rw [ee]; simpa using h4, ?_, by omega, by rw [ee]; exact el.symm, by rw [ee]; exact ep.symm⟩
 ·exact Decidable.byContradiction fun hq => h2 (.inl hq)
 ·rw [ee]; exact Decidable.byContradiction fun hq => h2 (.inr hq)
 ·intro hr
  rw [ee] at hr ⊢
  rw [← ep]
  refine Decidable.byContradiction fun hq => h5 ⟨hr, ?_⟩
  simpa using hq
theorem addB_of {R : List SK} {N : List Nd} {n : Nd} (h : AddOk R N n) : addB R N n.key n.text n.mark = (N ++ [n], 0) := by
 obtain ⟨h1, h2, h3, h4, h5, h6, h7, h8, h9, h10⟩ := h
 have e : (⟨n.key, n.text, n.mark, (readE n.text).1, levelB N (readE n.text).1.knows, (downB N (readE n.text).1.knows [] true).1⟩ : Nd) = n := by
  rw [h3] at h9 h10
  rw [← h3] at *
  cases n
  simp only at *
  subst h9 h10
  rfl
 unfold addB
 rw [← h3]
 rw [if_neg (by simp [h1]), if_neg (by simp [h2, h4]), if_neg (by simp [h5]), if_neg (by simp [h6]), if_neg (by
  rintro ⟨hr, hq⟩
  have := h7 hr
  rw [h10] at this
  simp [this] at hq), if_neg (by omega)]
 rw [h3, e]
theorem GN.at {R : List SK} {N : List Nd} (h : GN R N) {i : Nat} {n : Nd} (hi : N[i]? = some n) : AddOk R (N.take i) n := addB_inv (h i n hi)
theorem GN.snoc {R : List SK} {N : List Nd} {n : Nd} (h : GN R N) (ha : addB R N n.key n.text n.mark = (N ++ [n], 0)) : GN R (N ++ [n]) := fun i x hx => by
 rw [List.getElem?_append] at hx
 split at hx
 ·rename_i hl
  rw [List.take_append_of_le_length (by omega)]
  exact h i x hx
 ·rename_i hl
  have hi : i = N.length := by
   have := (List.getElem?_eq_some_iff.1 hx).1
   simp at this; omega
  subst hi
  simp only [Nat.sub_self, List.getElem?_cons_zero, Option.some.injEq] at hx
  subst hx
  rw [List.take_append_of_le_length (Nat.le_refl _), List.take_length]
  exact ha
theorem GN.take {R : List SK} {N : List Nd} (h : GN R N) (k : Nat) : GN R (N.take k) := fun i x hx => by
 rw [List.getElem?_take] at hx
 split at hx
 ·rename_i hl
  rw [List.take_take, Nat.min_eq_left (by omega)]
  exact h i x hx
 ·cases hx
theorem addB_cases (R : List SK) (N : List Nd) (k : Int) (t : List UInt8) (mk : Int) : (addB R N k t mk).1 = N ∨ ∃ n : Nd, n.key = k ∧ n.text = t ∧ n.mark = mk ∧ addB R N k t mk = (N ++ [n], 0) := by
 unfold addB
 split
 ·exact .inl rfl
 split
 ·exact .inl rfl
 split
 ·exact .inl rfl
 split
 ·exact .inl rfl
 split
 ·exact .inl rfl
 split
 ·exact .inl rfl
 exact .inr ⟨_, rfl, rfl, rfl, rfl⟩
theorem GN.add {R : List SK} {N : List Nd} (h : GN R N) (k : Int) (t : List UInt8) (mk : Int) : GN R (addB R N k t mk).1 := by
 rcases addB_cases R N k t mk with e | ⟨n, rfl, rfl, rfl, e⟩
 ·rw [e]; exact h
 ·rw [e]; exact h.snoc e
theorem AddOk.le {R R' : List SK} {N : List Nd} {n : Nd} (h : AddOk R N n) (hl : RLe R R') : AddOk R' N n := ⟨valid_le hl h.valid, h.ok, h.ent, h.author, h.fresh, h.knows, h.ref, h.room, h.level, h.past⟩
theorem GN.le {R R' : List SK} {N : List Nd} (h : GN R N) (hl : RLe R R') : GN R' N := fun i n hi => addB_of ((h.at hi).le hl)
theorem GN.len {R : List SK} {N : List Nd} (h : GN R N) : N.length ≤ 4000 := by
 rcases Nat.eq_zero_or_pos N.length with h0 | h0
 ·omega
 ·have hg := List.getElem?_eq_getElem (l := N) (i := N.length - 1) (by omega)
  have := (h.at hg).room
  rw [List.length_take] at this; omega
def mksN (N : List Nd) : List Int := N.map Nd.mark
theorem fresh_iff {N : List Nd} {m : Int} : alook (hidx N) m = none ↔ m ∉ mksN N := by
 unfold mksN
 rw [← hidx_keys, ← alook_isSome]
 cases alook (hidx N) m <;> simp
theorem has_iff {N : List Nd} {m : Int} : (alook (hidx N) m).isSome = true ↔ m ∈ mksN N := by
 unfold mksN; rw [← hidx_keys, ← alook_isSome]
theorem GN.nodup {R : List SK} {N : List Nd} (h : GN R N) : (mksN N).Nodup := by
 have key : ∀ k, (mksN (N.take k)).Nodup := by
  intro k
  induction k with
  | zero => simp [mksN]
  | succ k ih =>
   rcases Nat.lt_or_ge k N.length with hk | hk
   ·have hg := List.getElem?_eq_getElem hk
    rw [take_snoc hg]
    unfold mksN at ih ⊢
    rw [List.map_append, List.nodup_append]
    refine ⟨ih, by simp, fun a ha b hb e => ?_⟩
    subst e
    have hb' : a = N[k].mark := by simpa using hb
    subst hb'
    exact fresh_iff.1 (h.at hg).fresh ha
   ·rw [List.take_of_length_le (by omega)]
    rw [List.take_of_length_le (by omega)] at ih
    exact ih
 have := key N.length
 rwa [List.take_length] at this
theorem mks_get {N : List Nd} {m : Int} (h : m ∈ mksN N) : ∃ (i : Nat) (n : Nd), N[i]? = some n ∧ n.mark = m := by
 obtain ⟨n, hn, e⟩ := List.mem_map.1 h
 obtain ⟨i, hi⟩ := List.getElem?_of_mem hn
 exact ⟨i, n, hi, e⟩
theorem GN.look {R : List SK} {N : List Nd} (h : GN R N) {i : Nat} {n : Nd} (hi : N[i]? = some n) : alook (hidx N) n.mark = some (i : Int) := alook_mark h.nodup hi
theorem GN.uniq {R : List SK} {N : List Nd} (h : GN R N) {i j : Nat} {n m : Nd} (hi : N[i]? = some n) (hj : N[j]? = some m) (e : n.mark = m.mark) : i = j ∧ n = m := by
 have h1 := h.look hi
 have h2 := h.look hj
 rw [e, h2] at h1
 have : i = j := by have h3 := Option.some.inj h1; omega
 subst this
 rw [hi] at hj
 exact ⟨rfl, Option.some.inj hj⟩
theorem core_eq {R : List SK} {N N' : List Nd} (h : GN R N) (h' : GN R N') {i j : Nat} {n m : Nd} (hi : N[i]? = some n) (hj : N'[j]? = some m) (e : n.mark = m.mark) : n.key = m.key ∧ n.text = m.text ∧ n.e = m.e := by
 have a := h.at hi
 have b := h'.at hj
 obtain ⟨h1, h2⟩ := valid_core a.valid (by rw [e]; exact b.valid)
 exact ⟨h1, h2, by rw [a.ent, b.ent, h2]⟩
theorem ent_at {N : List Nd} (hn : (mksN N).Nodup) {i : Nat} {n : Nd} (hi : N[i]? = some n) : entB N n.mark = n.e := by
 unfold entB
 rw [alook_mark hn hi]
 show (nodeAt N (i : Int)).e = n.e
 rw [nodeAt_get hi]
theorem GN.knows_in {R : List SK} {N : List Nd} (h : GN R N) {i : Nat} {n : Nd} (hi : N[i]? = some n) {m : Int} (hm : m ∈ n.e.knows) : m ∈ mksN (N.take i) := has_iff.1 ((down_all _ _ _ (h.at hi).knows).2 m hm)
theorem mks_take {N : List Nd} {i : Nat} {m : Int} (h : m ∈ mksN (N.take i)) : m ∈ mksN N := by
 unfold mksN at h ⊢
 rw [List.map_take] at h
 exact List.mem_of_mem_take h
end Go.Proofs.YtdigebokbhmfaaaGreatDoor.Ap
namespace Go.Proofs.YtdigebokbhmfaaaGreatDoor.Ap
open Go.Vc Rt Go.Bs
def entR (R : List SK) (m : Int) : En := (readE (R.getD m.toNat default).2).1
inductive AncR (R : List SK) : Int → Int → Prop
 | one {a b : Int} : a ∈ (entR R b).knows → AncR R a b
 | more {a b c : Int} : AncR R a b → b ∈ (entR R c).knows → AncR R a c
theorem AncR.trans {R : List SK} {a b c : Int} (h1 : AncR R a b) (h2 : AncR R b c) : AncR R a c := by
 induction h2 with
 | one h => exact .more h1 h
 | more _ h ih => exact .more ih h
theorem entR_of {R : List SK} {k : Int} {t : List UInt8} {mk : Int} (h : validR R k t mk = true) : entR R mk = (readE t).1 := by
 obtain ⟨j, rfl, hj⟩ := idxL_look (validR_iff.1 h)
 unfold entR
 rw [Int.toNat_natCast, List.getD_eq_getElem?_getD, hj]; rfl
section
variable {R : List SK} {N : List Nd} (h : GN R N)
include h
theorem GN.entR {i : Nat} {n : Nd} (hi : N[i]? = some n) : entR R n.mark = n.e := by
 rw [entR_of (h.at hi).valid, (h.at hi).ent]
theorem GN.entB {m : Int} (hm : m ∈ mksN N) : entB N m = Ap.entR R m := by
 obtain ⟨i, n, hi, rfl⟩ := mks_get hm
 rw [ent_at h.nodup hi, h.entR hi]
theorem GN.anc_in {a b : Int} (ha : AncR R a b) : ∀ (i : Nat) (n : Nd), N[i]? = some n → n.mark = b → a ∈ mksN (N.take i) := by
 induction ha with
 | one hk =>
  rintro i n hi rfl
  rw [h.entR hi] at hk
  exact h.knows_in hi hk
 | @more c d _ hk ih =>
  rintro i n hi rfl
  rw [h.entR hi] at hk
  obtain ⟨j, x, hj, e⟩ := mks_get (h.knows_in hi hk)
  rw [List.getElem?_take] at hj
  split at hj
  ·rename_i hlt
   have := ih j x hj e
   unfold mksN at this ⊢
   rw [List.map_take] at this ⊢
   exact List.take_subset_take_left _ (by omega) this
  ·cases hj
theorem GN.anc_lt {i j : Nat} {n x : Nd} (hi : N[i]? = some n) (hj : N[j]? = some x) (ha : AncR R x.mark n.mark) : j < i := by
 obtain ⟨k, y, hk, e⟩ := mks_get (h.anc_in ha i n hi rfl)
 rw [List.getElem?_take] at hk
 split at hk
 ·rename_i hlt
  have := (h.uniq hk hj e).1
  omega
 ·cases hk
theorem GN.anc_mem {a b : Int} (ha : AncR R a b) (hb : b ∈ mksN N) : a ∈ mksN N := by
 obtain ⟨i, n, hi, e⟩ := mks_get hb
 exact mks_take (h.anc_in ha i n hi e)
theorem GN.anc_irr {a : Int} (ha : a ∈ mksN N) : ¬ AncR R a a := fun hq => by
 obtain ⟨i, n, hi, rfl⟩ := mks_get ha
 have := h.anc_lt hi hi hq
 omega
end
theorem down_bits {N : List Nd} : ∀ (L : List Int) (bits : List Nat) (all : Bool) (j : Nat), testB (downB N L bits all).1 j = true ↔ testB bits j = true ∨ ∃ m ∈ L, ∃ (i : Nat) (n : Nd), N[i]? = some n ∧ n.mark = m ∧ alook (hidx N) m = some (i : Int) ∧ (j = i ∨ testB n.past j = true)
 | [], bits, all, j => by simp [downB]
 | x :: r, bits, all, j => by
  rw [down_step]
  cases hal : alook (hidx N) x with
  | none =>
   show testB (downB N r bits false).1 j = true ↔ _
   rw [down_bits r bits false j]
   constructor
   ·rintro (h | ⟨m, hm, q⟩)
    ·exact .inl h
    ·exact .inr ⟨m, List.mem_cons_of_mem _ hm, q⟩
   ·rintro (h | ⟨m, hm, i, n, h1, h2, h3, h4⟩)
    ·exact .inl h
    ·rcases List.mem_cons.1 hm with rfl | hm
     ·rw [hal] at h3; cases h3
     ·exact .inr ⟨m, hm, i, n, h1, h2, h3, h4⟩
  | some i0 =>
   obtain ⟨j0, n0, rfl, hj0, hm0, e0⟩ := hidx_spec hal
   show testB (downB N r (setB (unionB bits (nodeAt N (j0 : Int)).past) (j0 : Int).toNat) all).1 j = true ↔ _
   rw [down_bits r _ all j, e0, Int.toNat_natCast, testB_set, testB_union, Bool.or_eq_true, Bool.or_eq_true, decide_eq_true_eq]
   constructor
   ·rintro ((h | h | h) | ⟨m, hm, q⟩)
    ·exact .inr ⟨x, List.mem_cons_self .., j0, n0, hj0, hm0, hal, .inl h⟩
    ·exact .inl h
    ·exact .inr ⟨x, List.mem_cons_self .., j0, n0, hj0, hm0, hal, .inr h⟩
    ·exact .inr ⟨m, List.mem_cons_of_mem _ hm, q⟩
   ·rintro (h | ⟨m, hm, i, n, h1, h2, h3, h4⟩)
    ·exact .inl (.inr (.inl h))
    ·rcases List.mem_cons.1 hm with rfl | hm
     ·rw [hal] at h3
      have : i = j0 := by have := Option.some.inj h3; omega
      subst this
      rw [hj0] at h1
      cases h1
      exact .inl (h4.imp _root_.id .inr)
     ·exact .inr ⟨m, hm, i, n, h1, h2, h3, h4⟩
theorem take_some {α : Type} {l : List α} {k i : Nat} {x : α} : (l.take k)[i]? = some x ↔ i < k ∧ l[i]? = some x := by
 rw [List.getElem?_take]
 split
 ·rename_i h; exact ⟨fun e => ⟨h, e⟩, fun e => e.2⟩
 ·rename_i h; exact ⟨fun e => (by cases e), fun e => absurd e.1 h⟩
theorem GN.past_iff {R : List SK} {N : List Nd} (h : GN R N) : ∀ (i : Nat) (n : Nd), N[i]? = some n → ∀ j, testB n.past j = true ↔ ∃ x, N[j]? = some x ∧ AncR R x.mark n.mark := by
 intro i
 induction i using Nat.strongRecOn with
 | ind i ih =>
  intro n hi j
  have ha := h.at hi
  have he := h.entR hi
  rw [ha.past, down_bits, testB_nil]
  constructor
  ·rintro (hf | ⟨m, hm, i', n', h1, rfl, h3, h4⟩)
   ·cases hf
   ·obtain ⟨hlt, h1⟩ := take_some.1 h1
    rcases h4 with rfl | h4
    ·exact ⟨n', h1, .one (by rw [he]; exact hm)⟩
    ·obtain ⟨x, hx, hax⟩ := (ih i' hlt n' h1 j).1 h4
     exact ⟨x, hx, .more hax (by rw [he]; exact hm)⟩
  ·rintro ⟨x, hx, hax⟩
   refine .inr ?_
   have fin : ∀ (i' : Nat) (n' : Nd), N[i']? = some n' → n'.mark ∈ n.e.knows → (j = i' ∨ testB n'.past j = true) → ∃ m ∈ n.e.knows, ∃ (i0 : Nat) (n0 : Nd), (N.take i)[i0]? = some n0 ∧ n0.mark = m ∧ alook (hidx (N.take i)) m = some (i0 : Int) ∧ (j = i0 ∨ testB n0.past j = true) := by
    intro i' n' hi' hk hq
    have hlt := h.anc_lt hi hi' (.one (by rw [he]; exact hk))
    have ht : (N.take i)[i']? = some n' := take_some.2 ⟨hlt, hi'⟩
    exact ⟨n'.mark, hk, i', n', ht, rfl, (h.take i).look ht, hq⟩
   cases hax with
   | one hk =>
    rw [he] at hk
    exact fin j x hx hk (.inl rfl)
   | @more b _ hab hk =>
    rw [he] at hk
    obtain ⟨i', n', hi', rfl⟩ := mks_get (h.knows_in hi hk)
    obtain ⟨hlt, hi'⟩ := take_some.1 hi'
    exact fin i' n' hi' hk (.inr ((ih i' hlt n' hi' j).2 ⟨x, hx, hab⟩))
theorem GN.before_iff {R : List SK} {N : List Nd} (h : GN R N) (a b : Int) : beforeB N a b = true ↔ b ∈ mksN N ∧ AncR R a b := by
 unfold beforeB
 cases hb : alook (hidx N) b with
 | none =>
  have := fresh_iff.1 hb
  cases ha : alook (hidx N) a with
  | none => exact ⟨fun e => (by cases e), fun e => absurd e.1 this⟩
  | some i => exact ⟨fun e => (by cases e), fun e => absurd e.1 this⟩
 | some k =>
  obtain ⟨j, n, rfl, hj, rfl, e⟩ := hidx_spec hb
  have hbm : n.mark ∈ mksN N := has_iff.1 (by rw [hb]; rfl)
  cases ha : alook (hidx N) a with
  | none =>
   have := fresh_iff.1 ha
   exact ⟨fun e => (by cases e), fun e => absurd (h.anc_mem e.2 e.1) this⟩
  | some i =>
   obtain ⟨i', x, rfl, hi', rfl, _⟩ := hidx_spec ha
   show testB (nodeAt N (j : Int)).past (i' : Int).toNat = true ↔ _
   rw [e, Int.toNat_natCast, h.past_iff j n hj]
   constructor
   ·rintro ⟨y, hy, hya⟩
    rw [hi'] at hy
    cases hy
    exact ⟨hbm, hya⟩
   ·rintro ⟨_, hya⟩
    exact ⟨x, hi', hya⟩
def lvB (N : List Nd) (m : Int) : Int := (nodeAt N ((alook (hidx N) m).getD 0)).level
theorem levelB_eq (N : List Nd) (L : List Int) : levelB N L = L.foldl (fun l m => max l (lvB N m + 1)) 0 := rfl
theorem fold_max_le (f : Int → Int) : ∀ (L : List Int) (l : Int), l ≤ L.foldl (fun l m => max l (f m + 1)) l ∧ ∀ m ∈ L, f m + 1 ≤ L.foldl (fun l m => max l (f m + 1)) l
 | [], l => ⟨Int.le_refl _, fun m hm => by cases hm⟩
 | x :: r, l => by
  obtain ⟨h1, h2⟩ := fold_max_le f r (max l (f x + 1))
  rw [List.foldl_cons]
  refine ⟨by omega, fun m hm => ?_⟩
  rcases List.mem_cons.1 hm with rfl | hm
  ·omega
  ·exact h2 m hm
theorem fold_max_congr (f g : Int → Int) : ∀ (L : List Int) (l : Int), (∀ m ∈ L, f m = g m) → L.foldl (fun l m => max l (f m + 1)) l = L.foldl (fun l m => max l (g m + 1)) l
 | [], l, _ => rfl
 | x :: r, l, h => by
  rw [List.foldl_cons, List.foldl_cons, h x (List.mem_cons_self ..)]
  exact fold_max_congr f g r _ fun m hm => h m (List.mem_cons_of_mem _ hm)
theorem GN.lv {R : List SK} {N : List Nd} (h : GN R N) {i : Nat} {n : Nd} (hi : N[i]? = some n) : lvB N n.mark = n.level := by
 unfold lvB
 rw [h.look hi, Option.getD_some, nodeAt_get hi]
theorem level_eq {R : List SK} {N N' : List Nd} (h : GN R N) (h' : GN R N') : ∀ (i : Nat) (n : Nd), N[i]? = some n → ∀ (j : Nat) (m : Nd), N'[j]? = some m → n.mark = m.mark → n.level = m.level := by
 intro i
 induction i using Nat.strongRecOn with
 | ind i ih =>
  intro n hi j m hj e
  obtain ⟨_, _, ee⟩ := core_eq h h' hi hj e
  rw [(h.at hi).level, (h'.at hj).level, ee, levelB_eq, levelB_eq]
  refine fold_max_congr _ _ _ _ fun x hx => ?_
  obtain ⟨i1, n1, hi1, e1⟩ := mks_get (h.knows_in hi (by rw [ee]; exact hx))
  obtain ⟨j1, m1, hj1, e2⟩ := mks_get (h'.knows_in hj hx)
  have q1 := (h.take i).lv hi1
  have q2 := (h'.take j).lv hj1
  rw [e1] at q1
  rw [e2] at q2
  rw [q1, q2]
  obtain ⟨hlt, hi1⟩ := take_some.1 hi1
  exact ih i1 hlt n1 hi1 j1 m1 (take_some.1 hj1).2 (by rw [e1, e2])
theorem GN.level_lt {R : List SK} {N : List Nd} (h : GN R N) {a b : Int} (ha : AncR R a b) : ∀ (i j : Nat) (n x : Nd), N[i]? = some n → n.mark = b → N[j]? = some x → x.mark = a → x.level < n.level := by
 have one : ∀ (i j : Nat) (n x : Nd), N[i]? = some n → x.mark ∈ n.e.knows → N[j]? = some x → x.level < n.level := by
  intro i j n x hi hk hj
  have hlt := h.anc_lt hi hj (.one (by rw [h.entR hi]; exact hk))
  rw [(h.at hi).level, levelB_eq]
  have := (fold_max_le (lvB (N.take i)) n.e.knows 0).2 x.mark hk
  rw [(h.take i).lv (take_some.2 ⟨hlt, hj⟩)] at this
  omega
 induction ha with
 | one hk =>
  rintro i j n x hi rfl hj rfl
  rw [h.entR hi] at hk
  exact one i j n x hi hk hj
 | @more c d hbc hk ih =>
  rintro i j n x hi rfl hj rfl
  rw [h.entR hi] at hk
  obtain ⟨k, y, hk', rfl⟩ := mks_get (mks_take (h.knows_in hi hk))
  have h1 := ih k j y x hk' rfl hj rfl
  have h2 := one i k n y hi hk hk'
  omega
theorem nodup_len {α : Type} [DecidableEq α] : ∀ {l l' : List α}, l.Nodup → (∀ x ∈ l, x ∈ l') → l.length ≤ l'.length
 | [], _, _, _ => Nat.zero_le _
 | x :: r, l', hn, hs => by
  have hx : x ∈ l' := hs x (List.mem_cons_self ..)
  have h1 := nodup_len (l := r) (l' := l'.erase x) (List.nodup_cons.1 hn).2 (fun y hy => (List.mem_erase_of_ne (fun e : y = x => (List.nodup_cons.1 hn).1 (by rw [← e]; exact hy))).2 (hs y (List.mem_cons_of_mem _ hy)))
  rw [List.length_erase_of_mem hx] at h1
  have := List.length_pos_of_mem hx
  simp only [List.length_cons]; omega
theorem valid_bd {R : List SK} {k : Int} {t : List UInt8} {mk : Int} (h : validR R k t mk = true) : mk ∈ (List.range R.length).map fun i : Nat => (i : Int) := by
 obtain ⟨j, rfl, hj⟩ := idxL_look (validR_iff.1 h)
 exact List.mem_map.2 ⟨j, List.mem_range.2 (List.getElem?_eq_some_iff.1 hj).1, rfl⟩
theorem GN.room {R : List SK} {N : List Nd} (h : GN R N) {k : Int} {t : List UInt8} {mk : Int} (hv : validR R k t mk = true) (hf : mk ∉ mksN N) : N.length < R.length := by
 have := nodup_len (l := mk :: mksN N) (l' := (List.range R.length).map fun i : Nat => (i : Int)) (List.nodup_cons.2 ⟨hf, h.nodup⟩) (fun x hx => by
  rcases List.mem_cons.1 hx with rfl | hx
  ·exact valid_bd hv
  ·obtain ⟨i, n, hi, rfl⟩ := mks_get hx
   exact valid_bd (h.at hi).valid)
 simp only [List.length_cons, List.length_map, List.length_range] at this
 unfold mksN at this
 rw [List.length_map] at this
 omega
theorem GN.le_ring {R : List SK} {N : List Nd} (h : GN R N) : N.length ≤ R.length := by
 have := nodup_len (l := mksN N) (l' := (List.range R.length).map fun i : Nat => (i : Int)) h.nodup (fun x hx => by
  obtain ⟨i, n, hi, rfl⟩ := mks_get hx
  exact valid_bd (h.at hi).valid)
 unfold mksN at this
 simpa using this
theorem down_true {N : List Nd} : ∀ (L : List Int) (bits : List Nat), (∀ m ∈ L, m ∈ mksN N) → (downB N L bits true).2 = true
 | [], bits, _ => rfl
 | x :: r, bits, h => by
  rw [down_step]
  obtain ⟨i, hi⟩ := Option.isSome_iff_exists.1 (has_iff.2 (h x (List.mem_cons_self ..)))
  rw [hi]
  exact down_true r _ fun m hm => h m (List.mem_cons_of_mem _ hm)
theorem mkNd_ex (N : List Nd) (k : Int) (t : List UInt8) (mk : Int) (e : En) (l : Int) (p : List Nat) : ∃ n0 : Nd, n0.key = k ∧ n0.text = t ∧ n0.mark = mk ∧ n0.e = e ∧ n0.level = l ∧ n0.past = p := ⟨⟨k, t, mk, e, l, p⟩, rfl, rfl, rfl, rfl, rfl, rfl⟩
theorem add_succ {R : List SK} {N : List Nd} (h : GN R N) (hRl : R.length ≤ 4000) {k : Int} {t : List UInt8} {mk : Int} (hv : validR R k t mk = true) (hok : (readE t).2 = 0) (ha : (readE t).1.author = k) (hf : mk ∉ mksN N) (hk : ∀ m ∈ (readE t).1.knows, m ∈ mksN N)
  (hr : ((readE t).1.ref ≠ -1 ∧ (readE t).1.kind ≠ 8) → ∃ m ∈ (readE t).1.knows, (readE t).1.ref = m ∨ AncR R (readE t).1.ref m) :
  ∃ n : Nd, n.key = k ∧ n.text = t ∧ n.mark = mk ∧ addB R N k t mk = (N ++ [n], 0) := by
 have hroom := h.room hv hf
 obtain ⟨n0, e1, e2, e3, e4, e5, e6⟩ := mkNd_ex N k t mk (readE t).1 (levelB N (readE t).1.knows) (downB N (readE t).1.knows [] true).1
 refine ⟨n0, e1, e2, e3, ?_⟩
 have hA : AddOk R N n0 := ⟨by rw [e1, e2, e3]; exact hv, by rw [e2]; exact hok, by rw [e4, e2], by rw [e4, e1]; exact ha, by rw [e3]; exact fresh_iff.2 hf, by rw [e4]; exact down_true _ _ hk, fun hq => ?_, by omega, by rw [e4, e5], by rw [e4, e6]⟩
 ·have := addB_of hA
  rwa [e1, e2, e3] at this
 rw [e4] at hq ⊢
 rw [e6]
 show refB N (downB N (readE t).1.knows [] true).1 (readE t).1.ref = true
 obtain ⟨m, hm, hq⟩ := hr hq
 obtain ⟨i, n, hi, rfl⟩ := mks_get (hk m hm)
 have hrm : (readE t).1.ref ∈ mksN N := by
  rcases hq with e | e
  ·rw [e]; exact hk _ hm
  ·exact h.anc_mem e (hk _ hm)
 obtain ⟨j, x, hj, hx⟩ := mks_get hrm
 unfold refB
 rw [← hx, h.look hj]
 show testB (downB N (readE t).1.knows [] true).1 (j : Int).toNat = true
 rw [Int.toNat_natCast, down_bits]
 refine .inr ⟨n.mark, hm, i, n, hi, rfl, h.look hi, ?_⟩
 rw [← hx] at hq
 rcases hq with e | e
 ·exact .inl (h.uniq hj hi e).1
 ·exact .inr ((h.past_iff i n hi j).2 ⟨x, hj, e⟩)
theorem add_again {R : List SK} {N : List Nd} {k : Int} {t : List UInt8} {mk : Int} (hv : validR R k t mk = true) (hok : (readE t).2 = 0) (ha : (readE t).1.author = k) (hm : mk ∈ mksN N) : addB R N k t mk = (N, 0) := by
 unfold addB
 rw [if_neg (by simp [hv]), if_neg (by simp [hok, ha]), if_pos (has_iff.2 hm)]
theorem ref_anc {R : List SK} {N : List Nd} (h : GN R N) {i : Nat} {n : Nd} (hi : N[i]? = some n) (hr : n.e.ref ≠ -1 ∧ n.e.kind ≠ 8) : ∃ m ∈ n.e.knows, n.e.ref = m ∨ AncR R n.e.ref m := by
 have hq := (h.at hi).ref hr
 unfold refB at hq
 cases hal : alook (hidx (N.take i)) n.e.ref with
 | none => rw [hal] at hq; cases hq
 | some j0 =>
  rw [hal] at hq
  obtain ⟨j, x, rfl, hj, hx, _⟩ := hidx_spec hal
  have hq' : testB n.past j = true := by simpa using hq
  rw [(h.at hi).past, down_bits, testB_nil] at hq'
  rcases hq' with hf | ⟨m, hm, i', n', h1, h2, h3, h4⟩
  ·cases hf
  ·refine ⟨m, hm, ?_⟩
   rcases h4 with rfl | h4
   ·rw [hj] at h1; cases h1; exact .inl (by rw [← hx, ← h2])
   ·obtain ⟨y, hy, hya⟩ := ((h.take i).past_iff i' n' h1 j).1 h4
    rw [hj] at hy; cases hy
    exact .inr (by rw [← hx, ← h2]; exact hya)
theorem add_from {R : List SK} {N N2 : List Nd} (h : GN R N) (h2 : GN R N2) (hRl : R.length ≤ 4000) {i : Nat} {n : Nd} (hi : N2[i]? = some n) (hk : ∀ m ∈ n.e.knows, m ∈ mksN N) :
  (addB R N n.key n.text n.mark).2 = 0 ∧ ∀ m, m ∈ mksN (addB R N n.key n.text n.mark).1 ↔ m ∈ mksN N ∨ m = n.mark := by
 have a := h2.at hi
 by_cases hm : n.mark ∈ mksN N
 ·rw [add_again a.valid a.ok (by rw [← a.ent]; exact a.author) hm]
  exact ⟨rfl, fun m => ⟨.inl, fun e => e.elim _root_.id fun e => by rw [e]; exact hm⟩⟩
 ·obtain ⟨x, _, _, hx, e⟩ := add_succ h hRl a.valid a.ok (by rw [← a.ent]; exact a.author) hm (by rw [← a.ent]; exact hk) (by rw [← a.ent]; exact ref_anc h2 hi)
  rw [e]
  refine ⟨rfl, fun m => ?_⟩
  unfold mksN
  rw [List.map_append, List.mem_append, List.map_cons, List.map_nil, List.mem_singleton, hx]
theorem restrictL_good {R : List SK} {N : List Nd} (h : GN R N) (hRl : R.length ≤ 4000) (bits : List Nat) (hD : ∀ (i j : Nat) (n x : Nd), N[i]? = some n → N[j]? = some x → testB bits i = true → AncR R x.mark n.mark → testB bits j = true) :
  ∀ k, k ≤ N.length → GN R (restrictL R N bits k) ∧ ∀ m, m ∈ mksN (restrictL R N bits k) ↔ ∃ (j : Nat) (x : Nd), j < k ∧ N[j]? = some x ∧ testB bits j = true ∧ x.mark = m
 | 0, _ => ⟨GN.nil R, fun m => ⟨fun hm => by simp [restrictL, mksN] at hm, fun ⟨j, _, hj, _⟩ => by omega⟩⟩
 | k + 1, hk => by
  obtain ⟨ih1, ih2⟩ := restrictL_good h hRl bits hD k (by omega)
  obtain ⟨n, hn⟩ : ∃ n, N[k]? = some n := ⟨_, List.getElem?_eq_getElem (by omega)⟩
  unfold restrictL
  by_cases hb : testB bits k = true
  ·rw [if_pos hb, nodeAt_get hn]
   have hkn : ∀ m ∈ n.e.knows, m ∈ mksN (restrictL R N bits k) := fun m hm => by
    obtain ⟨j, x, hj, rfl⟩ := mks_get (h.knows_in hn hm)
    obtain ⟨hlt, hj⟩ := take_some.1 hj
    exact (ih2 _).2 ⟨j, x, hlt, hj, hD k j n x hn hj hb (.one (by rw [h.entR hn]; exact hm)), rfl⟩
   refine ⟨ih1.add _ _ _, fun m => ?_⟩
   rw [(add_from ih1 h hRl hn hkn).2, ih2]
   constructor
   ·rintro (⟨j, x, h1, h2, h3, h4⟩ | rfl)
    ·exact ⟨j, x, by omega, h2, h3, h4⟩
    ·exact ⟨k, n, by omega, hn, hb, rfl⟩
   ·rintro ⟨j, x, h1, h2, h3, h4⟩
    rcases Nat.lt_or_ge j k with hlt | hge
    ·exact .inl ⟨j, x, hlt, h2, h3, h4⟩
    ·obtain rfl : j = k := by omega
     rw [hn] at h2; cases h2
     exact .inr h4.symm
  ·rw [if_neg hb]
   refine ⟨ih1, fun m => ?_⟩
   rw [ih2]
   constructor
   ·rintro ⟨j, x, h1, h2, h3, h4⟩
    exact ⟨j, x, by omega, h2, h3, h4⟩
   ·rintro ⟨j, x, h1, h2, h3, h4⟩
    rcases Nat.lt_or_ge j k with hlt | hge
    ·exact ⟨j, x, hlt, h2, h3, h4⟩
    ·obtain rfl : j = k := by omega
     exact absurd h3 hb
theorem restrict_good {R : List SK} {N : List Nd} (h : GN R N) (hRl : R.length ≤ 4000) (marks : List Int) : GN R (restrictB R N marks) ∧ ∀ m, m ∈ mksN (restrictB R N marks) ↔ ∃ b ∈ marks, b ∈ mksN N ∧ (m = b ∨ AncR R m b) := by
 have hbit : ∀ j, testB (downB N marks [] true).1 j = true ↔ ∃ b ∈ marks, ∃ (i : Nat) (n : Nd), N[i]? = some n ∧ n.mark = b ∧ (j = i ∨ ∃ x, N[j]? = some x ∧ AncR R x.mark n.mark) := fun j => by
  rw [down_bits, testB_nil]
  constructor
  ·rintro (hf | ⟨m, hm, i, n, h1, h2, _, h4⟩)
   ·cases hf
   ·exact ⟨m, hm, i, n, h1, h2, h4.imp _root_.id (h.past_iff i n h1 j).1⟩
  ·rintro ⟨m, hm, i, n, h1, h2, h4⟩
   exact .inr ⟨m, hm, i, n, h1, h2, by rw [← h2]; exact h.look h1, h4.imp _root_.id (h.past_iff i n h1 j).2⟩
 obtain ⟨g1, g2⟩ := restrictL_good h hRl (downB N marks [] true).1 (fun i j n x hi hj hb ha => by
  rw [hbit] at hb ⊢
  obtain ⟨m, hm, i', n', h1, h2, h4⟩ := hb
  refine ⟨m, hm, i', n', h1, h2, .inr ⟨x, hj, ?_⟩⟩
  rcases h4 with rfl | ⟨y, hy, hya⟩
  ·rw [hi] at h1; cases h1; exact ha
  ·rw [hi] at hy; cases hy; exact ha.trans hya) N.length (Nat.le_refl _)
 refine ⟨g1, fun m => ?_⟩
 unfold restrictB
 rw [g2]
 constructor
 ·rintro ⟨j, x, _, hj, hb, rfl⟩
  obtain ⟨b, hbm, i, n, h1, rfl, h4⟩ := (hbit j).1 hb
  refine ⟨n.mark, hbm, List.mem_map.2 ⟨n, List.mem_of_getElem? h1, rfl⟩, ?_⟩
  rcases h4 with rfl | ⟨y, hy, hya⟩
  ·rw [hj] at h1; cases h1; exact .inl rfl
  ·rw [hj] at hy; cases hy; exact .inr hya
 ·rintro ⟨b, hb, hbm, hq⟩
  obtain ⟨i, n, hi, rfl⟩ := mks_get hbm
  have hm : m ∈ mksN N := hq.elim (fun e => by rw [e]; exact hbm) fun e => h.anc_mem e hbm
  obtain ⟨j, x, hj, rfl⟩ := mks_get hm
  refine ⟨j, x, (List.getElem?_eq_some_iff.1 hj).1, hj, (hbit j).2 ⟨n.mark, hb, i, n, hi, rfl, ?_⟩, rfl⟩
  rcases hq with e | e
  ·exact .inl (h.uniq hj hi e).1
  ·exact .inr ⟨x, hj, e⟩
theorem addAll_good {R : List SK} {N2 L : List Nd} (h2 : GN R N2) (hRl : R.length ≤ 4000) (hp : L.Perm N2) (hs : L.Pairwise (fun a b => ¬ ltN b a)) :
  ∀ (suf pre M : List Nd), L = pre ++ suf → GN R M → (∀ n ∈ pre, n.mark ∈ mksN M) → (addAll R M suf).2 = 0 ∧ GN R (addAll R M suf).1 ∧ ∀ m, m ∈ mksN (addAll R M suf).1 ↔ m ∈ mksN M ∨ m ∈ mksN suf
 | [], pre, M, _, hM, _ => ⟨rfl, hM, fun m => by simp [addAll, mksN]⟩
 | n :: suf, pre, M, hL, hM, hpre => by
  have hnL : n ∈ N2 := hp.mem_iff.1 (by rw [hL]; simp)
  obtain ⟨i, hi⟩ := List.getElem?_of_mem hnL
  have hkn : ∀ m ∈ n.e.knows, m ∈ mksN M := fun m hm => by
   have hanc : AncR R m n.mark := .one (by rw [h2.entR hi]; exact hm)
   obtain ⟨j, x, hj, rfl⟩ := mks_get (mks_take (h2.knows_in hi hm))
   have hlv := h2.level_lt hanc i j n x hi rfl hj rfl
   have hxL : x ∈ pre ++ n :: suf := by rw [← hL]; exact hp.mem_iff.2 (List.mem_of_getElem? hj)
   rcases List.mem_append.1 hxL with hx | hx
   ·exact hpre x hx
   ·exfalso
    rcases List.mem_cons.1 hx with rfl | hx
    ·omega
    ·rw [hL] at hs
     have := (List.pairwise_cons.1 (List.pairwise_append.1 hs).2.1).1 x hx
     exact this (.inl hlv)
  obtain ⟨q1, q2⟩ := add_from hM h2 hRl hi hkn
  have e : addAll R M (n :: suf) = addAll R (addB R M n.key n.text n.mark).1 suf := by
   conv => lhs; unfold addAll
   rw [if_pos q1]
  rw [e]
  obtain ⟨r1, r2, r3⟩ := addAll_good h2 hRl hp hs suf (pre ++ [n]) (addB R M n.key n.text n.mark).1 (by rw [hL]; simp) (hM.add _ _ _) (fun x hx => by
   rw [q2]
   rcases List.mem_append.1 hx with hx | hx
   ·exact .inl (hpre x hx)
   ·rw [List.mem_singleton.1 hx]; exact .inr rfl)
  refine ⟨r1, r2, fun m => ?_⟩
  rw [r3, q2]
  unfold mksN
  rw [List.map_cons, List.mem_cons]
  constructor
  ·rintro ((h | h) | h)
   ·exact .inl h
   ·exact .inr (.inl h)
   ·exact .inr (.inr h)
  ·rintro (h | h | h)
   ·exact .inl (.inl h)
   ·exact .inl (.inr h)
   ·exact .inr h
theorem join_good {R : List SK} {N N2 L : List Nd} (h : GN R N) (h2 : GN R N2) (hRl : R.length ≤ 4000) (hp : L.Perm N2) (hs : L.Pairwise (fun a b => ¬ ltN b a)) : (addAll R N L).2 = 0 ∧ GN R (addAll R N L).1 ∧ ∀ m, m ∈ mksN (addAll R N L).1 ↔ m ∈ mksN N ∨ m ∈ mksN N2 := by
 obtain ⟨h1, h3, h4⟩ := addAll_good h2 hRl hp hs L [] N rfl h (fun n hn => by cases hn)
 refine ⟨h1, h3, fun m => ?_⟩
 rw [h4]
 have : m ∈ mksN L ↔ m ∈ mksN N2 := (hp.map Nd.mark).mem_iff
 rw [this]
end Go.Proofs.YtdigebokbhmfaaaGreatDoor.Ap
namespace Go.Proofs.YtdigebokbhmfaaaGreatDoor.Ap
open Go.Vc Rt Go.Bs
set_option maxHeartbeats 1000000
theorem um100 : Tryz.prog.underlying 100 = some (.map 3 23) := by kernel_rfl
theorem z23 (w : World) : (zeroValue 23).run Tryz.prog w = .ok (.slice none 0 0) w := by kernel_rfl
def vId (v : Value) : Value := v
def pushL (L : List (Int × List Int)) (a m : Int) : List (Int × List Int) := aput L a ((alook L a).getD [] ++ [m])
def ownTo (N : List Nd) (l : List Int) : List (Int × List Int) := l.foldl (fun L m => pushL L (entB N m).author m) []
def ownB (N : List Nd) : List (Int × List Int) := ownTo N (sortedB N)
theorem ownTo_snoc {N : List Nd} {l : List Int} {k : Nat} {x : Int} (hx : l[k]? = some x) : ownTo N (l.take (k + 1)) = pushL (ownTo N (l.take k)) (entB N x).author x := by
 rw [take_snoc hx]; unfold ownTo; rw [List.foldl_append]; rfl
theorem own_look (N : List Nd) (a : Int) : ∀ (l : List Int), (alook (ownTo N l) a).getD [] = l.filter fun m => decide ((entB N m).author = a) := by
 intro l
 have key : ∀ (l : List Int) (L : List (Int × List Int)), (alook (l.foldl (fun L m => pushL L (entB N m).author m) L) a).getD [] = (alook L a).getD [] ++ l.filter fun m => decide ((entB N m).author = a) := by
  intro l
  induction l with
  | nil => intro L; simp
  | cons m r ih =>
   intro L
   rw [List.foldl_cons, ih]
   unfold pushL
   rw [alook_aput, List.filter_cons]
   by_cases h : a = (entB N m).author
   ·rw [if_pos h, decide_eq_true h.symm]
    simp [← h]
   ·rw [if_neg h, decide_eq_false (fun e => h e.symm)]
    simp
 have := key l []
 rw [alook_nil] at this
 simpa [ownTo] using this
theorem own_keys (N : List Nd) (l : List Int) {p : Int × List Int} (h : p ∈ ownTo N l) : ∃ m ∈ l, (entB N m).author = p.1 := by
 have key : ∀ (l : List Int) (L : List (Int × List Int)), (∀ p ∈ l.foldl (fun L m => pushL L (entB N m).author m) L, p ∈ L ∨ (∃ q ∈ L, q.1 = p.1) ∨ ∃ m ∈ l, (entB N m).author = p.1) := by
  intro l
  induction l with
  | nil => intro L p hp; exact .inl hp
  | cons m r ih =>
   intro L p hp
   rw [List.foldl_cons] at hp
   have hput : ∀ q ∈ pushL L (entB N m).author m, q ∈ L ∨ q.1 = (entB N m).author := fun q hq => by
    rcases aput_mem hq with rfl | hq
    ·exact .inr rfl
    ·exact .inl hq
   rcases ih _ p hp with h | ⟨q, hq, e⟩ | ⟨x, hx, e⟩
   ·rcases hput p h with h | h
    ·exact .inl h
    ·exact .inr (.inr ⟨m, List.mem_cons_self .., h.symm⟩)
   ·rcases hput q hq with h | h
    ·exact .inr (.inl ⟨q, h, e⟩)
    ·exact .inr (.inr ⟨m, List.mem_cons_self .., by rw [← e, h]⟩)
   ·exact .inr (.inr ⟨x, List.mem_cons_of_mem _ hx, e⟩)
 rcases key l [] p h with h | ⟨q, hq, _⟩ | h
 ·cases h
 ·cases hq
 ·exact h
theorem own_len (N : List Nd) (l : List Int) : (ownTo N l).length ≤ l.length := by
 have key : ∀ (l : List Int) (L : List (Int × List Int)), (l.foldl (fun L m => pushL L (entB N m).author m) L).length ≤ L.length + l.length := by
  intro l
  induction l with
  | nil => intro L; simp
  | cons m r ih =>
   intro L
   rw [List.foldl_cons]
   have h1 := ih (pushL L (entB N m).author m)
   have h2 : (pushL L (entB N m).author m).length ≤ L.length + 1 := by
    unfold pushL aput; split
    ·simp
    ·simp
   rw [List.length_cons]; omega
 simpa [ownTo] using key l []
theorem sortedB_len (N : List Nd) : (sortedB N).length = N.length := by unfold sortedB; rw [List.length_map, (canB_perm N).length_eq]
theorem rawQ_l {st : St} {dst : Option Nat} {ty : TypeId} {pos : String} {after : Array Edge} {guard : Option (Nat × Bool)} {keys : Keys} {x i : Operand} {m : Nat} {L : List (Int × Value)} {k : Int}
  (hx : opv st keys x = some (.s (.c (.x (.map (some m)))))) (hi : opv st keys i = some (.i k)) (hm : ∀ w, Holds st w → MapAt vI vId w m L) :
  RawQ Tryz.prog st keys { dst := dst, op := .lookup 100 x i false, type := ty, pos := pos, after := after, guard := guard } (.x ((alook L k).getD (.slice none 0 0))) := by
 refine RawQ_den (rawQ_lookup (fV := CV.x) (z := .x (.slice none 0 0)) (c := false) (key := k) kl3 ⟨k, rfl⟩ (fun p _ => ⟨p.1, rfl⟩) vI_inj um100 z23 (fun _ => rfl) hx hi rfl hm) ?_
 cases alook L k <;> rfl
structure OwnR (S : List Nat) (w : World) (m : Nat) (vs : List (Int × Value)) (L : List (Int × List Int)) : Prop where
 map : MapAt vI vId w m vs
 out : m ∉ S
 keys : vs.map (·.1) = L.map (·.1)
 sl : ∀ a, SlOf intT S w ((alook vs a).getD (.slice none 0 0)) ((alook L a).getD [])
theorem OwnR.fr {S : List Nat} {w w' : World} {m : Nat} {vs : List (Int × Value)} {L : List (Int × List Int)} (h : OwnR S w m vs L) (hf : Fr S w w') : OwnR S w' m vs L :=
 ⟨mapAt_fr h.map hf h.out, h.out, h.keys, fun a => (h.sl a).fr hf⟩
theorem OwnR.ext {S : List Nat} {w w' : World} {m : Nat} {vs : List (Int × Value)} {L : List (Int × List Int)} (h : OwnR S w m vs L) (hf : Ext w w') : OwnR S w' m vs L := h.fr (hf.fr S)
def OwnG (vs : List (Int × Value)) (L : List (Int × List Int)) : Prop := ∀ a, isSl ((alook vs a).getD (.slice none 0 0)) ∧ slen ((alook vs a).getD (.slice none 0 0)) = ((alook L a).getD []).length
theorem OwnR.g {S : List Nat} {w : World} {m : Nat} {vs : List (Int × Value)} {L : List (Int × List Int)} (h : OwnR S w m vs L) : OwnG vs L := fun a => ⟨(h.sl a).sl, (h.sl a).len⟩
theorem newAbG_call {P : Program} {f : FuncId} {args : List Value} {st : St} {d : Option Nat} {K : St → Prop} {ι : Type} (F : ι → RV) (BF : ι → List Nat) (QF : ι → World → Prop) (G : ι → Prop) (hb : Body P f) (hn : ∀ i, noPr (F i) = true)
  (h : ∀ w, Holds st w → Calls P f args.toArray w (fun e w' => ∃ i, G i ∧ e = .returned (F i).den ∧ (LO.ab (BF i) (QF i)).holds w' ∧ (∀ b ∈ BF i, w.heap.size ≤ b) ∧ Ext w w'))
  (hk : ∀ i, G i → st.pushK (.ab (BF i) (QF i)) (fun n st' => goPut st' d (F i) K)) : UCall P st f args d K :=
 .inl ⟨hb, fun hwf w hw => (h w hw).mono fun e w' ⟨i, hg, he, ho, hf, hx⟩ => by
  have hk' := hk i hg
  rw [pushK_eq] at hk'
  exact ⟨F i, st.push (.ab (BF i) (QF i)), he, ⟨rfl, rfl, rfl, rfl⟩, hwf.push trivial, noPr_ok (hn i), hw.pushG hx ho fun b hb => hf b (mem_nub.1 hb), hk'⟩⟩
def OwnQ (m : Nat) (vs : List (Int × Value)) (B : List Nat) (L : List (Int × List Int)) (w : World) : Prop := OwnR [] w m vs L
theorem nilI_sl {S : List Nat} {w : World} : SlOf intT S w (.slice none 0 0) [] := SlOf.of_row (enc := fun n => [.i n]) (E := 3) nil_holds (fun b hb => by simp [blkOf] at hb) (by simp)
theorem ownR_of {w : World} {m : Nat} {Bs : List Nat} {vs : List (Int × Value)} {L : List (Int × List Int)} (hm : MapAt vI vId w m vs) (ho : OwnX none Bs w vs L) (hk : vs.map (·.1) = L.map (·.1)) (hl : ∀ a, ((alook L a).getD []).length ≤ 1000000) : OwnR [] w m vs L := by
 refine ⟨hm, by simp, hk, fun a => ?_⟩
 cases hv : alook vs a with
 | none =>
  have : alook L a = none := by
   have := (alook_isSome (L := vs) (k := a))
   rw [hk, ← alook_isSome, hv] at this
   simpa using this
  rw [this]; exact nilI_sl
 | some v =>
  obtain ⟨l, e1, e2, _⟩ := ho.row a v hv (by simp)
  have := hl a
  rw [e1] at this ⊢
  exact slI _ e2 this
theorem own_none (w : World) : (∀ o ∈ [ownO none [] [] []], o.holds w) ∧ ([ownO none [] [] []].flatMap LO.blks).Nodup ∧ ∀ b ∈ [ownO none [] [] []].flatMap LO.blks, b ∈ ([] : List LO).flatMap LO.blks :=
 ⟨fun o ho => by rw [List.mem_singleton.1 ho]; exact ownO_nil w, by simp [ownO, LO.blks, nub], fun b hb => by simp [ownO, LO.blks, nub] at hb⟩
theorem aput_sl {vs : List (Int × Value)} {a : Int} {v : Value} (h : ∀ p ∈ vs, ∃ a n c, p.2 = .slice a n c) (hv : ∃ a n c, v = .slice a n c) : ∀ p ∈ aput vs a v, ∃ a n c, p.2 = .slice a n c := fun p hp => by
 rcases aput_mem hp with rfl | hp
 ·exact hv
 ·exact h p hp
theorem own_r (h rb : Nat) (N : List Nd) (hN : NOk N) (w : World) (H : HR [] w h rb N) :
  Calls Tryz.prog 48 #[ptr h] w (fun e w' => ∃ i : Nat × List (Int × Value) × List Nat, OwnG i.2.1 (ownB N) ∧ e = .returned (.map (some i.1)) ∧ (LO.ab i.2.2 (OwnQ i.1 i.2.1 i.2.2 (ownB N))).holds w' ∧ (∀ b ∈ i.2.2, w.heap.size ≤ b) ∧ Ext w w') := by
 have hNl := hN.len
 have hml := marksB_len N
 have hsl := sortedB_len N
 refine calls_e [.x (ptr h)] Tryz.func48 rfl rfl (Nat.le_of_ble_eq_true rfl) trivial fun B hB => ?_
 repeat refine zq ?_
 refine zr ?_; conv => whnf
 repeat refine zq ?_
 refine zr ?_; conv => whnf
 refine rawE_make vI vId ?_
 intro m; conv => whnf
 repeat refine zq ?_
 refine zr ?_; conv => whnf
 refine ansR_call b12 (rd1 (nopI _)) (fun w' hw => marks_r h rb N hN w' (H.ext hw.fr)) ?_
 intro vm; conv => whnf
 refine ansR_call b11 (rd1 (nopI _)) (fun w' hw => sorted_r h rb N hN vm w' (H.ext hw.fr) (slI _ (hw.row (id := 1) rfl) (by omega))) ?_
 intro vo; conv => whnf
 refine ⟨rfl, ?_⟩; conv => whnf
 repeat refine zq ?_
 refine At.block ?_
 refine At.loopH (fun p' : Nat × List (Int × Value) × List Nat => { N := Tryz.f48.ntmps, sl := [(0, some (.x ((ptr h)))), (3, some (.x ((.map (some m))))), (12, some (.s (.c (.o 2 vo)))), (13, some (.i ((sortedB N).length))), (14, some (.i p'.1))], gl := [], hp := [(1, ownO none p'.2.2 p'.2.1 (ownTo N ((sortedB N).take p'.1))), (2, .row vo 3 1 ((sortedB N).map encI)), (0, mapO vI vId m p'.2.1)], S := [], ws := w }) (fun p' : Nat × List (Int × Value) × List Nat => p'.1 ≤ (sortedB N).length ∧ p'.2.1.map (·.1) = (ownTo N ((sortedB N).take p'.1)).map (·.1) ∧ ∀ p ∈ p'.2.1, ∃ a n c, p.2 = .slice a n c) (fun p' : Nat × List (Int × Value) × List Nat => (sortedB N).length - p'.1)
  (fun w' hw => ⟨(0, [], []), ⟨Nat.zero_le _, rfl, fun p hp => by cases hp⟩, Le.of rfl rfl ⟨rfl, rfl, rfl, congrArg (Value.int .i64) (by simp), rfl, trivial⟩, hw.recast [2, 0] (old := []) (new := [ownO none [] [] []]) (rest := [_, _]) rfl rfl (fun _ _ => own_none _) rfl rfl, ⟨⟨_, _, _, rfl⟩, trivial⟩, ⟨(nopI _).okH, trivial⟩⟩) ?_
 rintro ⟨k, vs, Bs⟩ ⟨hk, hkeys, hsv⟩
 simp only at hk hkeys hsv ⊢
 repeat refine zq ?_
 refine zr ?_; conv => whnf
 repeat refine zq ?_
 refine At.cond rfl (fun hc => At.skip ?_) (fun hc => At.exit ?_)
 ·have hlt : k < (sortedB N).length := by have := of_decide_eq_true hc; omega
  obtain ⟨x, hx⟩ : ∃ x, (sortedB N)[k]? = some x := ⟨_, List.getElem?_eq_getElem hlt⟩
  have hlt : k < (sortedB N).length := by have := of_decide_eq_true hc; omega
  have hsn := ownTo_snoc (N := N) hx
  have hown := own_look N (entB N x).author ((sortedB N).take k)
  have hfl : (((sortedB N).take k).filter fun m => decide ((entB N m).author = (entB N x).author)).length ≤ k := Nat.le_trans (List.length_filter_le _ _) (by rw [List.length_take]; omega)
  rw [← hown] at hfl
  generalize ownTo N ((sortedB N).take k) = L at hkeys hsn hfl ⊢
  unfold pushL at hsn
  repeat refine zq ?_
  refine At.block ?_
  repeat refine zq ?_
  refine zr ?_; conv => whnf
  refine ⟨rfl, ?_⟩; conv => whnf
  refine ⟨by omega, ?_⟩; conv => whnf
  refine ⟨by (try simp only [List.length_map]); omega, ?_⟩; conv => whnf
  refine ⟨encI x, ⟨rfl, rfl, by omega, by rw [Int.toNat_natCast, List.getElem?_map, hx]; rfl⟩, ?_⟩; conv => whnf
  repeat refine zq ?_
  refine At.join (fun p' : Nat × Value × Value × Value => { N := Tryz.f48.ntmps, sl := [(0, some (.x ((ptr h)))), (3, some (.x ((.map (some m))))), (5, some (.i x)), (6, some (.s (.c (.p 6 p'.1 0)))), (12, some (.s (.c (.o 2 vo)))), (13, some (.i ((sortedB N).length))), (14, some (.i k))], gl := [], hp := [(6, LO.box p'.1 40 (encE (entB N x) p'.2.1 p'.2.2.1 p'.2.2.2)), (1, ownO none Bs vs L), (2, .row vo 3 1 ((sortedB N).map encI)), (0, mapO vI vId m vs)], S := [], ws := w }) (fun p' : Nat × Value × Value × Value => True) ?_ ?_
  ·repeat refine zq ?_
   refine zr ?_; conv => whnf
   refine entry_call (h := h) (rb := rb) (N := N) (mk := x) hN (fun w' hw => H.ext hw.fr) ?_
   intro k4 y5 s6; conv => whnf
   intro b6; conv => whnf
   refine At.meet fun w' hw => ⟨(b6, k4, y5, s6), trivial, Le.of rfl rfl ⟨rfl, rfl, rfl, rfl, rfl, rfl, rfl, trivial⟩, hw.rebox [6, 1, 2, 0] rfl rfl rfl rfl rfl, ⟨⟨_, _, rfl⟩, ⟨_, _, _, rfl⟩, trivial⟩, ⟨(nopI _).okH, trivial⟩⟩
  rintro ⟨b6, k4, y5, s6⟩ _
  simp only
  generalize hea : entB N x = e at hsn hfl ⊢
  cases hal : alook vs e.author with
  | none =>
   have hal2 : alook L e.author = none := by
    have := (alook_isSome (L := vs) (k := e.author))
    rw [hkeys, ← alook_isSome, hal] at this
    simpa using this
   rw [hal2, Option.getD_none, List.nil_append] at hsn
   repeat refine zq ?_
   refine At.planG tab_ok mixed [(6, LO.box b6 40 (encE e k4 y5 s6))] (.take 0 (.take 1 (.take 2 (.take 3 (.take 4 (.take 5 (.take 7 (.br 6 (.br 8 (.br 9 (.br 10 (.done) (.nob)) (.nob)) (.nob)) (.br 8 (.br 6 (.br 9 (.br 10 (.done) (.nob)) (.nob)) (.nob)) (.nob)))))))))) (by kernel_rfl) (by kernel_rfl) ⟨rfl, trivial⟩ ?_; conv => whnf
   refine ⟨?_, ?_, trivial⟩
   ·conv => whnf
    refine ⟨.x (.slice none 0 0), gimp_of (RawQ_den (rawQ_l rfl rfl (fun w' hw => mapO_at (hw.objs _ (look_mem (s := 0) rfl)))) (by rw [hal]; rfl)), ?_⟩; conv => whnf
    refine ⟨⟨⟨rfl, trivial⟩, fun w' hw => hw.fr⟩, ?_⟩; conv => whnf
    refine ⟨?_, trivial⟩; conv => whnf
    intro v7; conv => whnf
    refine ⟨⟨⟨rfl, trivial⟩, fun w' hw => hw.fr⟩, ?_⟩; conv => whnf
    refine ⟨?_, trivial⟩; conv => whnf
    refine ⟨rfl, ?_⟩; conv => whnf
    refine ⟨by simp, ?_⟩; conv => whnf
    intro v8; conv => whnf
    refine ⟨⟨⟨rfl, trivial⟩, fun w' hw => hw.fr⟩, ?_⟩; conv => whnf
    refine ⟨?_, trivial⟩; conv => whnf
    refine rawE_update (id := 0) (key := e.author) (v := v8) kl3 ⟨e.author, rfl⟩ (fun p _ => ⟨p.1, rfl⟩) vI_inj um100 rfl rfl rfl rfl rfl rfl ?_; conv => whnf
    refine ⟨⟨⟨rfl, trivial⟩, fun w' hw => hw.fr⟩, ?_⟩; conv => whnf
    repeat refine zq ?_
    refine zr ?_; conv => whnf
    refine ⟨⟨by omega, by omega⟩, ?_⟩; conv => whnf
    refine At.nextH fun w' hw => ⟨(k + 1, aput vs e.author v8, blkOf v8 ++ Bs), ⟨by simp only; omega, by simp only [hsn]; exact keys_aput hkeys e.author v8 [x], aput_sl hsv (hw.sl (id := 8) rfl)⟩, by simp only; omega, Le.of rfl rfl ⟨rfl, rfl, rfl, rfl, rfl, trivial⟩, hw.recast [8, 1, 2, 0] (old := [_, _]) (new := [ownO none (blkOf v8 ++ Bs) (aput vs e.author v8) (aput L e.author [x])]) (rest := [_, _]) rfl (by simp only [hsn]; rfl) (fun h1 h2 => own_merge (l := [x]) (.inr ⟨rfl, hal⟩) h1 h2) rfl rfl, ⟨⟨_, _, _, rfl⟩, trivial⟩, ⟨(nopI _).okH, trivial⟩⟩
   ·conv => whnf
    intro v7; conv => whnf
    refine ⟨⟨⟨rfl, trivial⟩, fun w' hw => hw.fr⟩, ?_⟩; conv => whnf
    refine ⟨?_, trivial⟩; conv => whnf
    refine ⟨.x (.slice none 0 0), gimp_of (RawQ_den (rawQ_l rfl rfl (fun w' hw => mapO_at (hw.objs _ (look_mem (s := 0) rfl)))) (by rw [hal]; rfl)), ?_⟩; conv => whnf
    refine ⟨⟨⟨rfl, trivial⟩, fun w' hw => hw.fr⟩, ?_⟩; conv => whnf
    refine ⟨?_, trivial⟩; conv => whnf
    refine ⟨rfl, ?_⟩; conv => whnf
    refine ⟨by simp, ?_⟩; conv => whnf
    intro v8; conv => whnf
    refine ⟨⟨⟨rfl, trivial⟩, fun w' hw => hw.fr⟩, ?_⟩; conv => whnf
    refine ⟨?_, trivial⟩; conv => whnf
    refine rawE_update (id := 0) (key := e.author) (v := v8) kl3 ⟨e.author, rfl⟩ (fun p _ => ⟨p.1, rfl⟩) vI_inj um100 rfl rfl rfl rfl rfl rfl ?_; conv => whnf
    refine ⟨⟨⟨rfl, trivial⟩, fun w' hw => hw.fr⟩, ?_⟩; conv => whnf
    repeat refine zq ?_
    refine zr ?_; conv => whnf
    refine ⟨⟨by omega, by omega⟩, ?_⟩; conv => whnf
    refine At.nextH fun w' hw => ⟨(k + 1, aput vs e.author v8, blkOf v8 ++ Bs), ⟨by simp only; omega, by simp only [hsn]; exact keys_aput hkeys e.author v8 [x], aput_sl hsv (hw.sl (id := 8) rfl)⟩, by simp only; omega, Le.of rfl rfl ⟨rfl, rfl, rfl, rfl, rfl, trivial⟩, hw.recast [8, 1, 2, 0] (old := [_, _]) (new := [ownO none (blkOf v8 ++ Bs) (aput vs e.author v8) (aput L e.author [x])]) (rest := [_, _]) rfl (by simp only [hsn]; rfl) (fun h1 h2 => own_merge (l := [x]) (.inr ⟨rfl, hal⟩) h1 h2) rfl rfl, ⟨⟨_, _, _, rfl⟩, trivial⟩, ⟨(nopI _).okH, trivial⟩⟩
  | some v =>
   obtain ⟨a1, n1, c1, rfl⟩ : ∃ a n c, v = .slice a n c := hsv (e.author, v) (alook_mem hal)
   obtain ⟨l, hl⟩ : ∃ l, alook L e.author = some l := Option.isSome_iff_exists.1 (by rw [alook_isSome, ← hkeys, ← alook_isSome, hal]; rfl)
   rw [hl, Option.getD_some] at hsn hfl
   repeat refine zq ?_
   refine At.reshapeH fun w' hw => ⟨{ N := Tryz.f48.ntmps, sl := [(0, some (.x ((ptr h)))), (3, some (.x ((.map (some m))))), (5, some (.i x)), (6, some (.s (.c (.p 6 b6 0)))), (12, some (.s (.c (.o 2 vo)))), (13, some (.i ((sortedB N).length))), (14, some (.i k))], gl := [], hp := [(7, .row (.slice a1 n1 c1) 3 1 (l.map encI)), (1, ownO (some e.author) (Bs.filter fun b => !(blkOf (.slice a1 n1 c1)).contains b) vs L), (6, LO.box b6 40 (encE e k4 y5 s6)), (2, .row vo 3 1 ((sortedB N).map encI)), (0, mapO vI vId m vs)], S := [], ws := w }, Le.of rfl rfl ⟨rfl, rfl, rfl, rfl, rfl, rfl, rfl, trivial⟩, hw.recastB rfl rfl (fun h1 => own_split hal hl h1) rfl rfl, ⟨⟨_, _, rfl⟩, ⟨_, _, _, rfl⟩, trivial⟩, ⟨(nopI _).okH, (nopI _).okH, trivial⟩, ?_⟩
   repeat refine zq ?_
   refine At.planG tab_ok mixed [(6, LO.box b6 40 (encE e k4 y5 s6))] (.take 0 (.take 1 (.take 2 (.take 3 (.take 4 (.take 5 (.take 7 (.br 6 (.br 8 (.br 9 (.br 10 (.done) (.nob)) (.nob)) (.nob)) (.br 8 (.br 6 (.br 9 (.br 10 (.done) (.nob)) (.nob)) (.nob)) (.nob)))))))))) (by kernel_rfl) (by kernel_rfl) ⟨rfl, trivial⟩ ?_; conv => whnf
   refine ⟨?_, ?_, trivial⟩
   ·conv => whnf
    refine ⟨.s (.c (.o 7 (.slice a1 n1 c1))), gimp_of (RawQ_den (rawQ_l rfl rfl (fun w' hw => mapO_at (hw.objs _ (look_mem (s := 0) rfl)))) (by rw [hal]; rfl)), ?_⟩; conv => whnf
    refine ⟨⟨_, _, _, rfl⟩, ?_⟩; conv => whnf
    refine ⟨⟨⟨rfl, trivial⟩, fun w' hw => hw.fr⟩, ?_⟩; conv => whnf
    refine ⟨?_, trivial⟩; conv => whnf
    intro v8; conv => whnf
    refine ⟨⟨⟨rfl, trivial⟩, fun w' hw => hw.fr⟩, ?_⟩; conv => whnf
    refine ⟨?_, trivial⟩; conv => whnf
    refine ⟨rfl, ?_⟩; conv => whnf
    refine ⟨⟨rfl, by simp; omega⟩, ?_⟩; conv => whnf
    intro v9; conv => whnf
    refine ⟨⟨⟨rfl, trivial⟩, fun w' hw => hw.fr⟩, ?_⟩; conv => whnf
    refine ⟨?_, trivial⟩; conv => whnf
    refine rawE_update (id := 0) (key := e.author) (v := v9) kl3 ⟨e.author, rfl⟩ (fun p _ => ⟨p.1, rfl⟩) vI_inj um100 rfl rfl rfl rfl rfl rfl ?_; conv => whnf
    refine ⟨⟨⟨rfl, trivial⟩, fun w' hw => hw.fr⟩, ?_⟩; conv => whnf
    repeat refine zq ?_
    refine zr ?_; conv => whnf
    refine ⟨⟨by omega, by omega⟩, ?_⟩; conv => whnf
    refine At.nextH fun w' hw => ⟨(k + 1, aput vs e.author v9, blkOf v9 ++ (Bs.filter fun b => !(blkOf (.slice a1 n1 c1)).contains b)), ⟨by simp only; omega, by simp only [hsn]; exact keys_aput hkeys e.author v9 _, aput_sl hsv (hw.sl (id := 7) rfl)⟩, by simp only; omega, Le.of rfl rfl ⟨rfl, rfl, rfl, rfl, rfl, trivial⟩, hw.recast [7, 1, 2, 0] (old := [LO.row v9 3 1 ((l ++ [x]).map encI), _]) (new := [ownO none (blkOf v9 ++ (Bs.filter fun b => !(blkOf (.slice a1 n1 c1)).contains b)) (aput vs e.author v9) (aput L e.author (l ++ [x]))]) (rest := [_, _]) (by rw [List.map_append]; rfl) (by simp only [hsn]; rfl) (fun h1 h2 => own_merge (.inl rfl) h1 h2) rfl rfl, ⟨⟨_, _, _, rfl⟩, trivial⟩, ⟨(nopI _).okH, trivial⟩⟩
   ·conv => whnf
    intro v8; conv => whnf
    refine ⟨⟨⟨rfl, trivial⟩, fun w' hw => hw.fr⟩, ?_⟩; conv => whnf
    refine ⟨?_, trivial⟩; conv => whnf
    refine ⟨.s (.c (.o 7 (.slice a1 n1 c1))), gimp_of (RawQ_den (rawQ_l rfl rfl (fun w' hw => mapO_at (hw.objs _ (look_mem (s := 0) rfl)))) (by rw [hal]; rfl)), ?_⟩; conv => whnf
    refine ⟨⟨_, _, _, rfl⟩, ?_⟩; conv => whnf
    refine ⟨⟨⟨rfl, trivial⟩, fun w' hw => hw.fr⟩, ?_⟩; conv => whnf
    refine ⟨?_, trivial⟩; conv => whnf
    refine ⟨rfl, ?_⟩; conv => whnf
    refine ⟨⟨rfl, by simp; omega⟩, ?_⟩; conv => whnf
    intro v9; conv => whnf
    refine ⟨⟨⟨rfl, trivial⟩, fun w' hw => hw.fr⟩, ?_⟩; conv => whnf
    refine ⟨?_, trivial⟩; conv => whnf
    refine rawE_update (id := 0) (key := e.author) (v := v9) kl3 ⟨e.author, rfl⟩ (fun p _ => ⟨p.1, rfl⟩) vI_inj um100 rfl rfl rfl rfl rfl rfl ?_; conv => whnf
    refine ⟨⟨⟨rfl, trivial⟩, fun w' hw => hw.fr⟩, ?_⟩; conv => whnf
    repeat refine zq ?_
    refine zr ?_; conv => whnf
    refine ⟨⟨by omega, by omega⟩, ?_⟩; conv => whnf
    refine At.nextH fun w' hw => ⟨(k + 1, aput vs e.author v9, blkOf v9 ++ (Bs.filter fun b => !(blkOf (.slice a1 n1 c1)).contains b)), ⟨by simp only; omega, by simp only [hsn]; exact keys_aput hkeys e.author v9 _, aput_sl hsv (hw.sl (id := 7) rfl)⟩, by simp only; omega, Le.of rfl rfl ⟨rfl, rfl, rfl, rfl, rfl, trivial⟩, hw.recast [7, 1, 2, 0] (old := [LO.row v9 3 1 ((l ++ [x]).map encI), _]) (new := [ownO none (blkOf v9 ++ (Bs.filter fun b => !(blkOf (.slice a1 n1 c1)).contains b)) (aput vs e.author v9) (aput L e.author (l ++ [x]))]) (rest := [_, _]) (by rw [List.map_append]; rfl) (by simp only [hsn]; rfl) (fun h1 h2 => own_merge (.inl rfl) h1 h2) rfl rfl, ⟨⟨_, _, _, rfl⟩, trivial⟩, ⟨(nopI _).okH, trivial⟩⟩
 ·have hge : k = (sortedB N).length := by have := of_decide_eq_false hc; omega
  subst hge
  rw [List.take_length] at hkeys ⊢
  repeat refine zq ?_
  refine zr ?_; conv => whnf
  repeat refine zq ?_
  refine At.ret (At.doneB tab_ok hB _ rfl fun w' hw => ?_)
  have hm := mapO_at (hw.objs _ (look_mem (s := 0) rfl))
  have ho := (hw.objs _ (look_mem (s := 1) rfl)).2
  have hlen : ∀ a, ((alook (ownTo N (sortedB N)) a).getD []).length ≤ 1000000 := fun a => by
   rw [own_look]
   exact Nat.le_trans (List.length_filter_le _ _) (by omega)
  have hown := fun w'' (ha : ∀ b ∈ m :: Bs, w''.heap[b]? = w'.heap[b]?) => ownR_of (Bs := Bs) (m := m) (w := w'') (by
   obtain ⟨es, c, h1, h2⟩ := hm
   exact ⟨es, c, (ha m (List.mem_cons_self ..)).trans h1, h2⟩) (ho w'' fun b hb => ha b (List.mem_cons_of_mem _ hb)) hkeys hlen
  refine ⟨(m, vs, m :: Bs), (hown w' fun _ _ => rfl).g, rfl, ⟨fun b hb => ?_, hown⟩, fun b hb => ?_, hw.fr⟩
  ·rcases List.mem_cons.1 hb with rfl | hb
   ·exact mapAt_lt hm
   ·exact (hw.objs _ (look_mem (s := 1) rfl)).1 b hb
  ·rcases List.mem_cons.1 hb with rfl | hb
   ·exact (hw.fresh (id := 0) rfl _ (mem_nub.2 (by simp))).elim (fun h => by cases h) _root_.id
   ·exact (hw.fresh (id := 1) rfl b (mem_nub.2 hb)).elim (fun h => by cases h) _root_.id
end Go.Proofs.YtdigebokbhmfaaaGreatDoor.Ap
namespace Go.Proofs
open Go.Shelf
def Tryz.sortedA_ren : Go.Shelf.Ren := ⟨fun | 6 => 75 | 8 => 126 | 9 => 44 | 11 => 164 | 13 => 71 | 12 => 74 | 23 => 114 | 24 => 115 | 14 => 117 | 15 => 118 | 16 => 119 | 17 => 120 | 18 => 121 | 19 => 122 | 20 => 123 | 21 => 124 | 22 => 125 | 25 => 161 | 26 => 157 | 27 => 158 | 28 => 162 | 29 => 163 | 30 => 116 | 31 => 203 | n => n, fun | 26 => 3 | 28 => 147 | 24 => 23 | 0 => 0 | 3 => 3 | 37 => 142 | 48 => 173 | 50 => 136 | 4 => 4 | 40 => 167 | 39 => 166 | 45 => 93 | 5 => 5 | 9 => 9 | 51 => 223 | 55 => 227 | 57 => 283 | 58 => 284 | 33 => 44 | n => n, fun | n => n⟩
theorem Tryz.sortedA : Go.Proofs.SlLaysZI.n6 Tryz.prog Tryz.sortedA_ren := {
 mixed := by kernel_rfl
 f6 := ⟨Tryz.f75.name, by decide, Tryz.func75.trans (congrArg some (by kernel_rfl))⟩
 f8 := ⟨Tryz.f126.name, by decide, Tryz.func126.trans (congrArg some (by kernel_rfl))⟩
 f11 := ⟨Tryz.f164.name, by decide, Tryz.func164.trans (congrArg some (by kernel_rfl))⟩
 t0 := Tryz.underlying0
 a0 := Tryz.isAgg0
 z0 := Tryz.sizeOf0
 v0 := Tryz.zeroValue0
 t24 := Tryz.underlying23
 a24 := Tryz.isAgg23
 z24 := Tryz.sizeOf23
 v24 := Tryz.zeroValue23
 t26 := Tryz.underlying3
 a26 := Tryz.isAgg3
 z26 := Tryz.sizeOf3
 v26 := Tryz.zeroValue3
 t28 := Tryz.underlying147
 a28 := Tryz.isAgg147
 z28 := Tryz.sizeOf147
 v28 := Tryz.zeroValue147
 i26 := by kernel_rfl }
def Tryz.sortA_ren : Go.Shelf.Ren := ⟨fun | 5 => 44 | 8 => 71 | 7 => 74 | 19 => 114 | 20 => 115 | 10 => 117 | 11 => 118 | 12 => 119 | 13 => 120 | 14 => 121 | 15 => 122 | 16 => 123 | 17 => 124 | 18 => 125 | 30 => 161 | 31 => 157 | 32 => 158 | 33 => 162 | 34 => 163 | 35 => 116 | 40 => 203 | n => n, fun | 23 => 23 | 25 => 3 | 3 => 3 | 32 => 142 | 22 => 23 | 0 => 0 | 44 => 173 | 46 => 136 | 4 => 4 | 36 => 167 | 35 => 166 | 41 => 93 | 5 => 5 | 9 => 9 | 53 => 223 | 57 => 227 | 63 => 283 | 64 => 284 | n => n, fun | n => n⟩
theorem Tryz.sortA : Go.Proofs.SlLaysM.n5 Tryz.prog Tryz.sortA_ren := {
 mixed := by kernel_rfl
 f5 := ⟨Tryz.f44.name, by decide, Tryz.func44.trans (congrArg some (by kernel_rfl))⟩
 f7 := ⟨Tryz.f74.name, by decide, Tryz.func74.trans (congrArg some (by kernel_rfl))⟩
 f8 := Tryz.func71.trans (congrArg some (by kernel_rfl))
 f10 := ⟨Tryz.f117.name, by decide, Tryz.func117.trans (congrArg some (by kernel_rfl))⟩
 f11 := ⟨Tryz.f118.name, by decide, Tryz.func118.trans (congrArg some (by kernel_rfl))⟩
 f12 := ⟨Tryz.f119.name, by decide, Tryz.func119.trans (congrArg some (by kernel_rfl))⟩
 f13 := ⟨Tryz.f120.name, by decide, Tryz.func120.trans (congrArg some (by kernel_rfl))⟩
 f14 := ⟨Tryz.f121.name, by decide, Tryz.func121.trans (congrArg some (by kernel_rfl))⟩
 f15 := ⟨Tryz.f122.name, by decide, Tryz.func122.trans (congrArg some (by kernel_rfl))⟩
 f16 := ⟨Tryz.f123.name, by decide, Tryz.func123.trans (congrArg some (by kernel_rfl))⟩
 f17 := ⟨Tryz.f124.name, by decide, Tryz.func124.trans (congrArg some (by kernel_rfl))⟩
 f18 := ⟨Tryz.f125.name, by decide, Tryz.func125.trans (congrArg some (by kernel_rfl))⟩
 f19 := Tryz.func114.trans (congrArg some (by kernel_rfl))
 f20 := Tryz.func115.trans (congrArg some (by kernel_rfl))
 f30 := ⟨Tryz.f161.name, by decide, Tryz.func161.trans (congrArg some (by kernel_rfl))⟩
 f31 := Tryz.func157.trans (congrArg some (by kernel_rfl))
 f32 := Tryz.func158.trans (congrArg some (by kernel_rfl))
 f33 := ⟨Tryz.f162.name, by decide, Tryz.func162.trans (congrArg some (by kernel_rfl))⟩
 f34 := ⟨Tryz.f163.name, by decide, Tryz.func163.trans (congrArg some (by kernel_rfl))⟩
 f35 := ⟨Tryz.f116.name, by decide, Tryz.func116.trans (congrArg some (by kernel_rfl))⟩
 f40 := ⟨Tryz.f203.name, by decide, Tryz.func203.trans (congrArg some (by kernel_rfl))⟩
 t0 := Tryz.underlying0
 a0 := Tryz.isAgg0
 z0 := Tryz.sizeOf0
 v0 := Tryz.zeroValue0
 t3 := Tryz.underlying3
 a3 := Tryz.isAgg3
 z3 := Tryz.sizeOf3
 v3 := Tryz.zeroValue3
 t4 := Tryz.underlying4
 a4 := Tryz.isAgg4
 z4 := Tryz.sizeOf4
 v4 := Tryz.zeroValue4
 t5 := Tryz.underlying5
 a5 := Tryz.isAgg5
 z5 := Tryz.sizeOf5
 v5 := Tryz.zeroValue5
 t9 := Tryz.underlying9
 a9 := Tryz.isAgg9
 z9 := Tryz.sizeOf9
 v9 := Tryz.zeroValue9
 t22 := Tryz.underlying23
 a22 := Tryz.isAgg23
 z22 := Tryz.sizeOf23
 v22 := Tryz.zeroValue23
 t23 := Tryz.underlying23
 a23 := Tryz.isAgg23
 z23 := Tryz.sizeOf23
 v23 := Tryz.zeroValue23
 t25 := Tryz.underlying3
 a25 := Tryz.isAgg3
 z25 := Tryz.sizeOf3
 v25 := Tryz.zeroValue3
 t32 := Tryz.underlying142
 a32 := Tryz.isAgg142
 z32 := Tryz.sizeOf142
 v32 := Tryz.zeroValue142
 t35 := Tryz.underlying166
 a35 := Tryz.isAgg166
 z35 := Tryz.sizeOf166
 v35 := Tryz.zeroValue166
 t36 := Tryz.underlying167
 a36 := Tryz.isAgg167
 z36 := Tryz.sizeOf167
 v36 := Tryz.zeroValue167
 t41 := Tryz.underlying93
 a41 := Tryz.isAgg93
 z41 := Tryz.sizeOf93
 v41 := Tryz.zeroValue93
 t44 := Tryz.underlying173
 a44 := Tryz.isAgg173
 z44 := Tryz.sizeOf173
 v44 := Tryz.zeroValue173
 t46 := Tryz.underlying136
 a46 := Tryz.isAgg136
 z46 := Tryz.sizeOf136
 v46 := Tryz.zeroValue136
 t53 := Tryz.underlying223
 a53 := Tryz.isAgg223
 z53 := Tryz.sizeOf223
 v53 := Tryz.zeroValue223
 t57 := Tryz.underlying227
 a57 := Tryz.isAgg227
 z57 := Tryz.sizeOf227
 v57 := Tryz.zeroValue227
 t63 := Tryz.underlying283
 a63 := Tryz.isAgg283
 z63 := Tryz.sizeOf283
 v63 := Tryz.zeroValue283
 t64 := Tryz.underlying284
 a64 := Tryz.isAgg284
 z64 := Tryz.sizeOf284
 v64 := Tryz.zeroValue284 }
end Go.Proofs
namespace Go.Proofs
open Go.Shelf
def Tryz.keysL_ren : Go.Shelf.Ren := ⟨fun | 7 => 76 | 10 => 127 | n => n, fun | 23 => 100 | 26 => 3 | 3 => 23 | 28 => 147 | 0 => 0 | 27 => 146 | 33 => 44 | 4 => 4 | n => n, fun | n => n⟩
theorem Tryz.keysL : Go.Proofs.SlLaysZI.n7 Tryz.prog Tryz.keysL_ren := {
 mixed := by kernel_rfl
 f7 := ⟨Tryz.f76.name, by decide, Tryz.func76.trans (congrArg some (by kernel_rfl))⟩
 f10 := ⟨Tryz.f127.name, by decide, Tryz.func127.trans (congrArg some (by kernel_rfl))⟩
 t0 := Tryz.underlying0
 a0 := Tryz.isAgg0
 z0 := Tryz.sizeOf0
 v0 := Tryz.zeroValue0
 t4 := Tryz.underlying4
 a4 := Tryz.isAgg4
 z4 := Tryz.sizeOf4
 v4 := Tryz.zeroValue4
 t23 := Tryz.underlying100
 a23 := Tryz.isAgg100
 z23 := Tryz.sizeOf100
 v23 := Tryz.zeroValue100
 t26 := Tryz.underlying3
 a26 := Tryz.isAgg3
 z26 := Tryz.sizeOf3
 v26 := Tryz.zeroValue3
 t27 := Tryz.underlying146
 a27 := Tryz.isAgg146
 z27 := Tryz.sizeOf146
 v27 := Tryz.zeroValue146
 t28 := Tryz.underlying147
 a28 := Tryz.isAgg147
 z28 := Tryz.sizeOf147
 v28 := Tryz.zeroValue147
 t33 := Tryz.underlying44
 a33 := Tryz.isAgg44
 z33 := Tryz.sizeOf44
 v33 := Tryz.zeroValue44 }
end Go.Proofs
namespace Go.Proofs.YtdigebokbhmfaaaGreatDoor.Ap
open Go.Vc Rt Go.Bs
theorem wf_i64 {n : Int} (h : iR n) : (Lit.int IntKind.i64 n).wf = true := by
 have h1 : (IntKind.i64).min = -9223372036854775808 := by decide
 have h2 : (IntKind.i64).max = 9223372036854775807 := by decide
 simp only [Lit.wf, h1, h2, Bool.and_eq_true, decide_eq_true_eq]; exact h
theorem sortsA (m : Nat) : AnyZI.SortsIn Tryz.prog Tryz.sortedA_ren Fence.wide m :=
 ⟨fun blk off cap ss W hH hblk hsz => callsIn_wide.2 (AnyM.slices_Sort_int Tryz.sortA blk off cap ss W hH hblk hsz),
  fun p cap W => callsIn_wide.2 (AnyM.slices_Sort_int_none Tryz.sortA p cap W)⟩
theorem insert_perm {H : Type} (x : Lit × DataW H) : ∀ l : List (Lit × DataW H), (DataW.insert x l).Perm (x :: l)
 | [] => .refl _
 | y :: r => by
  unfold DataW.insert
  split
  ·exact .refl _
  ·exact ((insert_perm x r).cons y).trans (.swap ..)
theorem foldr_insert_perm {H : Type} : ∀ l : List (Lit × DataW H), (l.foldr DataW.insert []).Perm l
 | [] => .refl _
 | x :: r => (insert_perm x _).trans ((foldr_insert_perm r).cons x)
def anyElem {H : Type} (_ : Value) : Option (DataW H × List MemPlace) := some (.lit (.bool true), [])
theorem rg_any {H : Type} {x : MapEntry} {n : Int} (hk : x.key = .int .i64 n) (hn : iR n) : Go.WideElems.rd (H := H) Tryz.prog 3 anyElem x = some (.int .i64 n, .lit (.bool true)) := by
 unfold Go.WideElems.rd
 rw [hk, Maps.keyOf_int_mk u3 (wf_i64 hn)]
 rfl
theorem ownsL_of {H : Type} {w : World} {m : Nat} {L : List (Int × Value)} (h : MapAt vI vId w m L) (hL : ∀ p ∈ L, iR p.1) (hl : L.length ≤ 1000000) : ∃ D : DataW H, _root_.Go.World.ownsMap w Tryz.prog 3 anyElem m L.length D ∧ (_root_.Go.intKeys D).Perm (L.map (·.1)) ∧ Maps.size D = L.length := by
 obtain ⟨es, clock, h1, h2, h3⟩ := h
 have hsz : es.size = L.length := by have := congrArg List.length h3; simpa using this
 have hget : ∀ x ∈ es.toList, ∃ p ∈ L, x.key = .int .i64 p.1 := fun x hx => by
  obtain ⟨j, hj⟩ := List.getElem?_of_mem hx
  obtain ⟨p, hp, e1, e2⟩ := entry_get h3 hj
  exact ⟨p, List.mem_of_getElem? hp, e1⟩
 have hrd : ∀ x ∈ es.toList, ∃ p ∈ L, x.key = .int .i64 p.1 ∧ Go.WideElems.rd (H := H) Tryz.prog 3 anyElem x = some (.int .i64 p.1, .lit (.bool true)) := fun x hx => by
  obtain ⟨p, hp, e1⟩ := hget x hx
  exact ⟨p, hp, e1, rg_any e1 (hL p hp)⟩
 have hkeys : (es.toList.map (Go.WideElems.rg (H := H) Tryz.prog 3 anyElem)).map (fun p => _root_.Go.intOf p.1) = L.map (·.1) := by
  have e1 : L.map (·.1) = es.toList.map (fun x => match x.key with | .int _ n => n | _ => 0) := by
   have := congrArg (List.map (fun p : Value × Value => match p.1 with | .int _ n => n | _ => 0)) h3
   simp only [List.map_map] at this
   rw [show (L.map (·.1)) = L.map ((fun p : Value × Value => match p.1 with | .int _ n => n | _ => 0) ∘ fun p => (vI p.1, vId p.2)) from List.map_congr_left fun p _ => rfl, ← this]
   exact List.map_congr_left fun x _ => rfl
  rw [e1, List.map_map]
  refine List.map_congr_left fun x hx => ?_
  obtain ⟨p, hp, e2, e3⟩ := hrd x hx
  simp only [Function.comp_apply, Go.WideElems.rg, e3, Option.getD_some, e2, _root_.Go.intOf]
 refine ⟨.map ((es.toList.map (Go.WideElems.rg Tryz.prog 3 anyElem)).foldr DataW.insert []), ⟨es, clock, h1, ⟨by rw [hsz]; unfold maxLen; omega, h2, fun x hx => by obtain ⟨p, _, _, e⟩ := hrd x hx; exact ⟨_, e⟩⟩, Nat.le_of_eq hsz, rfl⟩, ?_, ?_⟩
 ·rw [← hkeys]
  exact (foldr_insert_perm _).map _
 ·show (List.foldr DataW.insert [] _).length = _
  rw [(foldr_insert_perm _).length_eq, List.length_map, Array.length_toList, hsz]
theorem mapKeys_c (m : Nat) (w : World) : Calls Tryz.prog 76 #[.map (some m)] w (fun e w' => ∃ b, e = .returned (.func (.func 127) #[] #[ptr b]) ∧ w'.heap[b]? = some (.cells #[.map (some m)] 100 (0, 0)) ∧ w.heap.size ≤ b ∧ Ext w w') := by
 have h : CallsIn Fence.wide 5 Tryz.prog 76 #[.map (some m)] w fun e w' => e = .returned (.func (.func 127) #[] #[.pointer (some ⟨w.heap.size, 0, none⟩)]) ∧ w' = w.alloc (.cells #[.map (some m)] 100) := AnyZI.keys_in Tryz.keysL Fence.wide 5 trivial rfl (some m) w
 refine (callsIn_wide.1 h).mono ?_
 rintro e w' ⟨rfl, rfl⟩
 refine ⟨w.heap.size, rfl, ?_, Nat.le_refl _, (Fr.refl [] w).alloc _⟩
 show (w.heap.push _)[w.heap.size]? = _
 simp
theorem keys_call {st : St} {d : Option Nat} {K : St → Prop} {m : Nat} (hk : ∀ b : Nat, st.pushK (.box b 100 [.x (.map (some m))]) (fun n st' => goPut st' d (.s (.c (.x (.func (.func 127) #[] #[ptr b])))) K)) : UCall Tryz.prog st 76 [.map (some m)] d K :=
 .inl ⟨b76, fun hwf w hw => (mapKeys_c m w).mono fun e w' ⟨b, he, h1, h2, h3⟩ => by
  have hk' := hk b
  rw [pushK_eq] at hk'
  refine ⟨.s (.c (.x (.func (.func 127) #[] #[ptr b]))), st.push (.box b 100 [.x (.map (some m))]), he, ⟨rfl, rfl, rfl, rfl⟩, hwf.push (fun c hc' => ?_), trivial, hw.pushG h3 h1 (fun x hx => ?_), hk'⟩
  ·rw [List.mem_singleton.1 hc']; trivial
  ·rw [List.mem_singleton.1 hx]; exact h2⟩
theorem sortedKeys_c (m b : Nat) (L : List (Int × Value)) (w : World) (h : MapAt vI vId w m L) (hL : ∀ p ∈ L, iR p.1) (hl : L.length ≤ 1000000) (hb : w.heap[b]? = some (.cells #[.map (some m)] 100 (0, 0))) :
  AnsR Tryz.prog 75 [.func (.func 127) #[] #[ptr b]] [.row 3 1 ((sortI (L.map (·.1))).map encI)] w := by
 obtain ⟨D, hown, hperm, hsz⟩ := ownsL_of (H := Unit) h hL hl
 have hlt : b < w.heap.size := (Array.getElem?_eq_some_iff.1 hb).1
 have hcell : w.cell? ⟨b, 0, none⟩ = some (.map (some m)) := by
  unfold World.cell?
  simp [hb]
 have hseq : SeqGives Fence.wide 2 Tryz.prog 127 #[.pointer (some ⟨b, 0, none⟩)] encZ (fun ss => ss.Perm (_root_.Go.intKeys D)) (Maps.size D) w := AnyZI.keys_gives (ρ := Tryz.keysL_ren) { Tryz.keysL with } Fence.wide _ trivial rfl (by omega) b m L.length D w hlt hcell hown
 have cS := AnyZI.sorted_in Tryz.sortedA Fence.wide 5 trivial trivial trivial trivial rfl (by omega) (sortsA _) (enters_of Tryz.func44 (by kernel_rfl) rfl) 127 #[.pointer (some ⟨b, 0, none⟩)] trivial (enters_of Tryz.func127 (by kernel_rfl) rfl) _ _ (by rw [hsz]; unfold maxLen; omega) (by rw [hsz]; omega) w hseq
 change CallsIn _ _ Tryz.prog 75 _ _ _ at cS
 refine (callsIn_wide.1 cS).mono ?_
 rintro e w' ⟨v, ss, rfl, hS, hrow, hnil, hbel⟩
 have hp : ss.Perm (L.map (·.1)) := hS.trans hperm
 have hso : ss.mergeSort (fun x y => decide (x ≤ y)) = sortI (L.map (·.1)) := mergeSort_of_perm_i hp
 have hln : ss.length = (sortI (L.map (·.1))).length := by rw [sortI_len, hp.length_eq]
 rw [hso, hln] at hrow
 obtain ⟨hr1, hr2⟩ := hrow
 refine ⟨[v], rfl, ⟨⟨⟨by rw [densI]; simp, ?_⟩, fun l hl => by obtain ⟨x, _, rfl⟩ := List.mem_map.1 hl; rfl⟩, fun x hx => ?_, fun u hu => (by cases hu), rfl⟩, Ext.of_below hbel⟩
 ·rcases hr2 with ⟨e1, e2⟩ | ⟨g, cap, cur, e1, hg, hh, hc1, hc2, hc3, hc4⟩
  ·exact .inl ⟨e1, by rw [List.length_map]; exact e2⟩
  ·refine .inr ⟨g, 0, cap, cur, by rw [List.length_map]; exact e1, hh, by rw [List.length_map]; exact hc1, hc2, by omega, ?_⟩
   rw [densI, List.drop_zero, List.length_map]
   exact hc4
 ·rcases hr2 with ⟨e1, e2⟩ | ⟨g, cap, cur, e1, hg, hh, hc1, hc2, hc3, hc4⟩
  ·rw [e1] at hx; simp [blkOf] at hx
  ·rw [e1] at hx
   simp only [blkOf, List.mem_singleton] at hx
   rw [hx]; exact hg
end Go.Proofs.YtdigebokbhmfaaaGreatDoor.Ap
namespace Go.Proofs.YtdigebokbhmfaaaGreatDoor.Ap
open Go.Vc Rt Go.Bs
def silentB (k : Int) : Bool := bif (bif decide (k = 18) then true else decide (k = 19)) then true else decide (k = 20)
theorem silent_c (k : Int) (w : World) : Ans Tryz.prog 133 [vI k] (.b (silentB k)) w := by
 refine calls_plainB [.i k] Tryz.func133 rfl rfl (Nat.le_of_ble_eq_true rfl) rfl fun B hB => ?_
 repeat refine zq ?_
 refine zr ?_; conv => whnf
 repeat refine zq ?_
 refine zr ?_; conv => whnf
 repeat refine zq ?_
 refine At.ret (At.doneB tab_ok hB _ rfl fun w' hw => ⟨rfl, hw.fr⟩)
theorem nilSl : isSl (.slice none 0 0) := ⟨none, 0, 0, rfl, fun _ => ⟨rfl, rfl⟩, Nat.le_refl _⟩
theorem compact_nil (w : World) : Ans Tryz.prog 293 [.slice none 0 0] (.x (.slice none 0 0)) w := by
 refine calls_plainB [.x (.slice none 0 0)] Tryz.func293 rfl rfl (Nat.le_of_ble_eq_true rfl) rfl fun B hB => ?_
 repeat refine zq ?_
 refine zr ?_; conv => whnf
 repeat refine zq ?_
 refine zr ?_; conv => whnf
 refine ⟨nilSl, ?_⟩; conv => whnf
 repeat refine zq ?_
 refine At.cond rfl (fun hq => ?_) (fun hq => ?_)
 ·repeat refine zq ?_
  refine zr ?_; conv => whnf
  repeat refine zq ?_
  refine At.ret (At.doneB tab_ok hB _ rfl fun w' hw => ⟨rfl, hw.fr⟩)
 ·exact absurd (show slen (.slice none 0 0) < 2 by decide) (of_decide_eq_false hq)
theorem sort_nil (w : World) : Ans Tryz.prog 44 [.slice none 0 0] (.tup []) w :=
 (sortI_c [] (.slice none 0 0) w nil_holds (by simp)).mono fun e w' ⟨he, _, hf⟩ => ⟨by rw [he]; rfl, hf⟩
theorem rounds_nil (kv : Value) (liars seed kind day : Int) (hk : kv.oneCell' = true) (w : World) : Ans Tryz.prog 205 [.agg #[kv, vI liars, vI seed, .slice none 0 0], vI kind, vI day] (.x (.slice none 0 0)) w := by
 refine calls_plainB [.s (.agg [.x kv, .i liars, .i seed, .x (.slice none 0 0)]), .i kind, .i day] Tryz.func205 rfl rfl (Nat.le_of_ble_eq_true rfl) rfl fun B hB => ?_
 repeat refine zq ?_
 refine zr ?_; conv => whnf
 refine ⟨hk, ?_⟩; conv => whnf
 refine ⟨rfl, ?_⟩; conv => whnf
 intro b; conv => whnf
 repeat refine zq ?_
 refine zr ?_; conv => whnf
 repeat refine zq ?_
 refine zr ?_; conv => whnf
 refine ⟨nilSl, ?_⟩; conv => whnf
 repeat refine zq ?_
 refine At.block ?_
 refine At.loopF (fun _ : Unit => { N := Tryz.f205.ntmps, sl := [(7, some (.x (.slice none 0 0))), (12, some (.i 0)), (13, some (.i 0))], gl := [], hp := [], S := [], ws := w }) (fun _ => True) (fun _ => 0)
  (fun w' hw => ⟨(), trivial, Le.of rfl rfl ⟨rfl, rfl, rfl, trivial⟩, WF.plain rfl, hw.keep [] rfl rfl rfl⟩) ?_
 intro _ _
 repeat refine zq ?_
 refine zr ?_; conv => whnf
 repeat refine zq ?_
 refine At.cond rfl (fun hq => ?_) (fun _ => At.exit ?_)
 ·exact absurd (of_decide_eq_true hq) (by decide)
 repeat refine zq ?_
 refine zr ?_; conv => whnf
 refine ans_call b44 rfl (fun w' _ => sort_nil w') ?_; conv => whnf
 repeat refine zq ?_
 refine zr ?_; conv => whnf
 refine ans_call b293 rfl (fun w' _ => compact_nil w') ?_; conv => whnf
 repeat refine zq ?_
 refine At.ret (At.doneB tab_ok hB _ rfl fun w' hw => ⟨rfl, hw.fr⟩)
end Go.Proofs.YtdigebokbhmfaaaGreatDoor.Ap
namespace Go.Proofs.YtdigebokbhmfaaaGreatDoor.Ap
open Go.Vc Rt Go.Bs
theorem decided_nil (kv : Value) (liars seed day : Int) (hk : kv.oneCell' = true) (w : World) : Ans Tryz.prog 166 [.agg #[kv, vI liars, vI seed, .slice none 0 0], vI day] (.tup [.agg [.i 0, .i 0], .c (.b false)]) w := by
 refine calls_plainB [.s (.agg [.x kv, .i liars, .i seed, .x (.slice none 0 0)]), .i day] Tryz.func166 rfl rfl (Nat.le_of_ble_eq_true rfl) rfl fun B hB => ?_
 repeat refine zq ?_
 refine zr ?_; conv => whnf
 refine ⟨hk, ?_⟩; conv => whnf
 refine ⟨rfl, ?_⟩; conv => whnf
 intro b; conv => whnf
 intro b4; conv => whnf
 repeat refine zq ?_
 refine zr ?_; conv => whnf
 refine ans_call b205 rfl (fun w' _ => rounds_nil kv liars seed 20 day hk w') ?_; conv => whnf
 refine ⟨nilSl, ?_⟩; conv => whnf
 repeat refine zq ?_
 refine At.block ?_
 refine At.loopH (fun u : Nat => { N := Tryz.f166.ntmps, sl := [(4, some (.s (.c (.p 1 b4 0)))), (5, some (.b false)), (12, some (.i 0)), (13, some (.i 0))], gl := [], hp := [(1, .box b4 184 [.i 0, .i 0])], S := [], ws := w }) (fun u : Nat => True) (fun u : Nat => 0)
  (fun w' hw => ⟨0, trivial, Le.of rfl rfl ⟨rfl, rfl, rfl, rfl, trivial⟩, hw.keep [1] rfl rfl rfl, ⟨⟨_, _, rfl⟩, trivial⟩, trivial⟩) ?_
 intro u _
 repeat refine zq ?_
 refine zr ?_; conv => whnf
 repeat refine zq ?_
 refine At.cond rfl (fun hq => ?_) (fun _ => At.exit ?_)
 ·exact absurd (of_decide_eq_true hq) (by decide)
 repeat refine zq ?_
 refine zr ?_; conv => whnf
 repeat refine zq ?_
 refine At.ret (At.doneB tab_ok hB _ rfl fun w' hw => ⟨rfl, hw.fr⟩)
end Go.Proofs.YtdigebokbhmfaaaGreatDoor.Ap
namespace Go.Proofs.YtdigebokbhmfaaaGreatDoor.Ap
open Go.Vc Rt Go.Bs
set_option maxHeartbeats 1000000
theorem see_nil (h rb : Nat) (N : List Nd) (hN : NOk N) (marks : List Int) (hm : ∀ x ∈ marks, (entB N x).kind ≠ 18 ∧ (entB N x).kind ≠ 19 ∧ (entB N x).kind ≠ 20) (mv kv : Value) (liars seed : Int) (hk : kv.oneCell' = true) (w : World) (H : HR [] w h rb N) (hmv : SlOf intT [] w mv marks) (hl : marks.length ≤ 1000000) :
  Ans Tryz.prog 165 [ptr h, .agg #[kv, vI liars, vI seed], mv] (.s (.agg [.x kv, .i liars, .i seed, .x (.slice none 0 0)])) w := by
 have hln := hmv.len
 refine calls_e [.x (ptr h), .s (.agg [.x kv, .i liars, .i seed]), .x mv] Tryz.func165 rfl rfl (Nat.le_of_ble_eq_true rfl) trivial fun B hB => ?_
 repeat refine zq ?_
 refine zr ?_; conv => whnf
 refine ⟨hk, ?_⟩; conv => whnf
 intro b4; conv => whnf
 intro b6; conv => whnf
 repeat refine zq ?_
 refine zr ?_; conv => whnf
 refine ⟨hk, ?_⟩; conv => whnf
 intro b7; conv => whnf
 refine ⟨hk, ?_⟩; conv => whnf
 refine ⟨rfl, ?_⟩; conv => whnf
 repeat refine zq ?_
 refine zr ?_; conv => whnf
 refine ⟨hmv.sl, ?_⟩; conv => whnf
 repeat refine zq ?_
 refine At.block ?_
 refine At.loopH (fun k : Nat => { N := Tryz.f165.ntmps, sl := [(0, some (.x ((ptr h)))), (6, some (.s (.c (.p 1 b6 0)))), (7, some (.s (.c (.p 2 b7 0)))), (17, some (.x mv)), (18, some (.i marks.length)), (19, some (.i k))], gl := [], hp := [(2, .box b7 234 [.x kv, .i liars, .i seed, .x (.slice none 0 0)]), (1, .box b6 234 [.x (.slice none 0 0), .i 0, .i 0, .x (.slice none 0 0)])], S := [], ws := w }) (fun k : Nat => k ≤ marks.length) (fun k : Nat => marks.length - k)
  (fun w' hw => ⟨0, Nat.zero_le _, Le.of rfl rfl ⟨rfl, rfl, rfl, rfl, congrArg (Value.int .i64) hln, rfl, trivial⟩, hw.keep [2, 1] rfl rfl rfl, ⟨⟨_, _, rfl⟩, ⟨_, _, rfl⟩, trivial⟩, trivial⟩) ?_
 intro k hkl
 repeat refine zq ?_
 refine zr ?_; conv => whnf
 repeat refine zq ?_
 refine At.cond rfl (fun hc => At.skip ?_) (fun hc => At.exit ?_)
 ·have hlt : k < marks.length := by have := of_decide_eq_true hc; omega
  obtain ⟨x, hx⟩ : ∃ x, marks[k]? = some x := ⟨_, List.getElem?_eq_getElem hlt⟩
  have hlt : k < marks.length := by have := of_decide_eq_true hc; omega
  obtain ⟨n18, n19, n20⟩ := hm x (List.mem_of_getElem? hx)
  repeat refine zq ?_
  refine At.block ?_
  repeat refine zq ?_
  refine zr ?_; conv => whnf
  refine ⟨by omega, ?_⟩; conv => whnf
  refine ⟨by omega, ?_⟩; conv => whnf
  refine ⟨[.i x], fun w' hw => hmv.load (n := 1) hw.fr hx rfl, ?_⟩; conv => whnf
  repeat refine zq ?_
  refine zr ?_; conv => whnf
  refine entry_call (h := h) (rb := rb) (N := N) (mk := x) hN (fun w' hw => H.ext hw.fr) ?_
  intro k4 y5 s6; conv => whnf
  intro b10; conv => whnf
  repeat refine zq ?_
  refine zr ?_; conv => whnf
  intro b12; conv => whnf
  repeat refine zq ?_
  refine zr ?_; conv => whnf
  repeat refine zq ?_
  refine At.block ?_
  repeat refine zq ?_
  refine zr ?_; conv => whnf
  repeat refine zq ?_
  refine At.cond rfl (fun hq => absurd (of_decide_eq_true hq) n18) (fun _ => ?_)
  repeat refine zq ?_
  refine zr ?_; conv => whnf
  repeat refine zq ?_
  refine At.cond rfl (fun hq => absurd (of_decide_eq_true hq) n19) (fun _ => ?_)
  repeat refine zq ?_
  refine zr ?_; conv => whnf
  repeat refine zq ?_
  refine At.cond rfl (fun hq => absurd (of_decide_eq_true hq) n20) (fun _ => At.exit ?_)
  repeat refine zq ?_
  refine zr ?_; conv => whnf
  refine ⟨⟨by omega, by omega⟩, ?_⟩; conv => whnf
  refine At.nextH fun w' hw => ⟨k + 1, by omega, by omega, Le.of rfl rfl ⟨rfl, rfl, rfl, rfl, rfl, rfl, trivial⟩, hw.keep [2, 1] rfl rfl rfl, ⟨⟨_, _, rfl⟩, ⟨_, _, rfl⟩, trivial⟩, trivial⟩
 ·have hge : k = marks.length := by have := of_decide_eq_false hc; omega
  subst hge
  repeat refine zq ?_
  refine zr ?_; conv => whnf
  refine ⟨hk, ?_⟩; conv => whnf
  refine ⟨rfl, ?_⟩; conv => whnf
  repeat refine zq ?_
  refine At.ret (At.doneB tab_ok hB _ rfl fun w' hw => ⟨rfl, hw.fr⟩)
end Go.Proofs.YtdigebokbhmfaaaGreatDoor.Ap
namespace Go.Proofs.YtdigebokbhmfaaaGreatDoor.Ap
open Go.Vc Rt Go.Bs
set_option maxHeartbeats 1000000
theorem days_nil (h rb : Nat) (N : List Nd) (hN : NOk N) (hm : ∀ x ∈ marksB N, (entB N x).kind ≠ 18 ∧ (entB N x).kind ≠ 19 ∧ (entB N x).kind ≠ 20) (ks : List Int) (kv : Value) (liars seed : Int) (w : World) (H : HR [] w h rb N) (hs : SlOf intT [] w kv ks) (hkl : ks.length ≤ 1000000) :
  Ans Tryz.prog 130 [ptr h, vSt kv liars seed] (.x (.slice none 0 0)) w := by
 have hk := hs.one
 have hml := marksB_len N
 have hNl := hN.len
 refine calls_e [.x (ptr h), .s (.agg (encSt kv liars seed))] Tryz.func130 rfl rfl (Nat.le_of_ble_eq_true rfl) trivial fun B hB => ?_
 repeat refine zq ?_
 refine zr ?_; conv => whnf
 refine ⟨hk, ?_⟩; conv => whnf
 intro b3; conv => whnf
 repeat refine zq ?_
 refine zr ?_; conv => whnf
 refine ans_call b51 rfl (fun w' hw => rightS_c ks liars seed [] kv w' (hs.fr hw.fr) hkl) ?_; conv => whnf
 repeat refine zq ?_
 refine At.cond rfl (fun hq => ?_) (fun hq => At.skip ?_)
 ·repeat refine zq ?_
  refine zr ?_; conv => whnf
  repeat refine zq ?_
  refine At.ret (At.doneB tab_ok hB _ rfl fun w' hw => ⟨rfl, hw.fr⟩)
 repeat refine zq ?_
 refine At.join (fun b5 : Nat => { N := Tryz.f130.ntmps, sl := [(5, some (.s (.c (.p 0 b5 0))))], gl := [], hp := [(0, .box b5 234 [.x kv, .i liars, .i seed, .x (.slice none 0 0)])], S := [], ws := w }) (fun b5 : Nat => True) ?_ ?_
 ·repeat refine zq ?_
  refine At.planG tab_ok mixed [(0, LO.box b3 53 (encSt kv liars seed))] (.take 0 (.take 1 (.take 2 (.br 3 (.br 4 (.br 5 (.br 6 (.done) (.nob)) (.nob)) (.br 5 (.br 4 (.br 6 (.done) (.nob)) (.nob)) (.nob))) (.br 5 (.br 3 (.br 4 (.br 6 (.done) (.nob)) (.nob)) (.nob)) (.nob)))))) (by kernel_rfl) (by kernel_rfl) ⟨rfl, trivial⟩ ?_; conv => whnf
  refine ⟨?_, ?_, trivial⟩
  ·conv => whnf
   refine ansR_call b12 (rd1 (nopI _)) (fun w' hw => marks_r h rb N hN w' (H.ext hw.fr)) ?_
   intro vm; conv => whnf
   refine ⟨⟨⟨rfl, trivial⟩, fun w' hw => hw.fr⟩, ?_⟩; conv => whnf
   refine ⟨?_, ?_, trivial⟩
   ·conv => whnf
    refine ans_call (r := .s (.agg [.x kv, .i liars, .i seed, .x (.slice none 0 0)])) b165 rfl (fun w' hw => see_nil h rb N hN (marksB N) hm vm kv liars seed hk w' (H.ext hw.fr) (slI _ (by first | exact hw.row (id := 1) rfl | exact hw.row (id := 2) rfl) (by omega)) (by omega)) ?_; conv => whnf
    refine ⟨⟨⟨rfl, trivial⟩, fun w' hw => hw.fr⟩, ?_⟩; conv => whnf
    refine ⟨?_, trivial⟩; conv => whnf
    intro b5; conv => whnf
    refine ⟨⟨⟨rfl, trivial⟩, fun w' hw => hw.fr⟩, ?_⟩; conv => whnf
    refine ⟨?_, trivial⟩; conv => whnf
    refine ⟨hk, ?_⟩; conv => whnf
    refine ⟨rfl, ?_⟩; conv => whnf
    refine ⟨⟨⟨rfl, trivial⟩, fun w' hw => hw.fr⟩, ?_⟩; conv => whnf
    refine At.meet fun w' hw => ⟨b5, trivial, Le.of rfl rfl ⟨rfl, trivial⟩, (by first | exact hw.ren [2] rfl rfl rfl | exact hw.ren [1] rfl rfl rfl), ⟨⟨_, _, rfl⟩, trivial⟩, trivial⟩
   ·conv => whnf
    intro b5; conv => whnf
    refine ⟨⟨⟨rfl, trivial⟩, fun w' hw => hw.fr⟩, ?_⟩; conv => whnf
    refine ⟨?_, trivial⟩; conv => whnf
    refine ans_call (r := .s (.agg [.x kv, .i liars, .i seed, .x (.slice none 0 0)])) b165 rfl (fun w' hw => see_nil h rb N hN (marksB N) hm vm kv liars seed hk w' (H.ext hw.fr) (slI _ (by first | exact hw.row (id := 1) rfl | exact hw.row (id := 2) rfl) (by omega)) (by omega)) ?_; conv => whnf
    refine ⟨⟨⟨rfl, trivial⟩, fun w' hw => hw.fr⟩, ?_⟩; conv => whnf
    refine ⟨?_, trivial⟩; conv => whnf
    refine ⟨hk, ?_⟩; conv => whnf
    refine ⟨rfl, ?_⟩; conv => whnf
    refine ⟨⟨⟨rfl, trivial⟩, fun w' hw => hw.fr⟩, ?_⟩; conv => whnf
    refine At.meet fun w' hw => ⟨b5, trivial, Le.of rfl rfl ⟨rfl, trivial⟩, (by first | exact hw.ren [2] rfl rfl rfl | exact hw.ren [1] rfl rfl rfl), ⟨⟨_, _, rfl⟩, trivial⟩, trivial⟩
  ·conv => whnf
   intro b5; conv => whnf
   refine ⟨⟨⟨rfl, trivial⟩, fun w' hw => hw.fr⟩, ?_⟩; conv => whnf
   refine ⟨?_, trivial⟩; conv => whnf
   refine ansR_call b12 (rd1 (nopI _)) (fun w' hw => marks_r h rb N hN w' (H.ext hw.fr)) ?_
   intro vm; conv => whnf
   refine ⟨⟨⟨rfl, trivial⟩, fun w' hw => hw.fr⟩, ?_⟩; conv => whnf
   refine ⟨?_, trivial⟩; conv => whnf
   refine ans_call (r := .s (.agg [.x kv, .i liars, .i seed, .x (.slice none 0 0)])) b165 rfl (fun w' hw => see_nil h rb N hN (marksB N) hm vm kv liars seed hk w' (H.ext hw.fr) (slI _ (by first | exact hw.row (id := 1) rfl | exact hw.row (id := 2) rfl) (by omega)) (by omega)) ?_; conv => whnf
   refine ⟨⟨⟨rfl, trivial⟩, fun w' hw => hw.fr⟩, ?_⟩; conv => whnf
   refine ⟨?_, trivial⟩; conv => whnf
   refine ⟨hk, ?_⟩; conv => whnf
   refine ⟨rfl, ?_⟩; conv => whnf
   refine ⟨⟨⟨rfl, trivial⟩, fun w' hw => hw.fr⟩, ?_⟩; conv => whnf
   refine At.meet fun w' hw => ⟨b5, trivial, Le.of rfl rfl ⟨rfl, trivial⟩, (by first | exact hw.ren [2] rfl rfl rfl | exact hw.ren [1] rfl rfl rfl), ⟨⟨_, _, rfl⟩, trivial⟩, trivial⟩
 rintro b5 _
 repeat refine zq ?_
 refine zr ?_; conv => whnf
 repeat refine zq ?_
 refine At.block ?_
 refine At.loopH (fun u : Nat => { N := Tryz.f130.ntmps, sl := [(5, some (.s (.c (.p 0 b5 0)))), (6, some (.x ((.slice none 0 0))))], gl := [], hp := [(0, .box b5 234 [.x kv, .i liars, .i seed, .x (.slice none 0 0)])], S := [], ws := w }) (fun u : Nat => True) (fun u : Nat => 0)
  (fun w' hw => ⟨0, trivial, Le.of rfl rfl ⟨rfl, rfl, trivial⟩, hw.keep [0] rfl rfl rfl, ⟨⟨_, _, rfl⟩, trivial⟩, trivial⟩) ?_
 intro u _
 repeat refine zq ?_
 refine At.block ?_
 repeat refine zq ?_
 refine zr ?_; conv => whnf
 refine ⟨nilSl, ?_⟩; conv => whnf
 refine ans_call b166 rfl (fun w' _ => decided_nil kv liars seed _ hk w') ?_; conv => whnf
 intro b7; conv => whnf
 repeat refine zq ?_
 refine zr ?_; conv => whnf
 repeat refine zq ?_
 refine At.cond rfl (fun _ => ?_) (fun hq => by cases hq)
 repeat refine zq ?_
 refine zr ?_; conv => whnf
 repeat refine zq ?_
 refine At.ret (At.doneB tab_ok hB _ rfl fun w' hw => ⟨rfl, hw.fr⟩)
end Go.Proofs.YtdigebokbhmfaaaGreatDoor.Ap
namespace Go.Bs
open Rt
theorem all_false {n k : Nat} {p : Nat → Bool} (hk : k < n) (h : p k = false) : (List.range n).all p = false := by
 rw [List.all_eq_false]; exact ⟨k, List.mem_range.2 hk, by simp [h]⟩
theorem all_true {n : Nat} {p : Nat → Bool} (h : ∀ j, j < n → p j = true) : (List.range n).all p = true := by
 rw [List.all_eq_true]; intro k hk; exact h k (List.mem_range.1 hk)
end Go.Bs
namespace Go.Proofs.YtdigebokbhmfaaaGreatDoor
open Go.Vc Rt Go.Bs
set_option maxHeartbeats 2000000
end Go.Proofs.YtdigebokbhmfaaaGreatDoor
