/- Texts that the law leans on. -/
import Derived.Test.YtlobacpdhglnkaaGreatDoorX28
import Derived.Test.YtlobacpdhglnkaaGreatDoorPVcRound
import Derived.Test.YtlobacpdhglnkaaGreatDoorX22
import Derived.RangeFuncBox
import Derived.Shelf.Abstract
import Derived.WalkKit
import Derived.OwnWalkIn
import Derived.TacticsInMore
import Derived.LoopNIn
import Derived.LoopIn
set_option linter.unusedVariables false
set_option linter.unusedSimpArgs false
namespace Go.Proofs.YtlobacpdhglnkaaGreatDoor
open Go.Vc Rt Go.Bs
set_option maxHeartbeats 1000000
theorem keys_call {st : St} {d : Option Nat} {K : St → Prop} {m : Nat} (hk : ∀ b : Nat, st.pushK (.box b 98 [.x (.map (some m))]) (fun n st' => goPut st' d (.s (.c (.x (.func (.func 104) #[] #[ptr b])))) K)) : UCall Tryz.prog st 57 [.map (some m)] d K :=
 .inl ⟨b57, fun hwf w hw => (mapKeys_c m w).mono fun e w' ⟨b, he, h1, h2, h3⟩ => by
  have hk' := hk b
  rw [pushK_eq] at hk'
  refine ⟨.s (.c (.x (.func (.func 104) #[] #[ptr b]))), st.push (.box b 98 [.x (.map (some m))]), he, ⟨rfl, rfl, rfl, rfl⟩, hwf.push (fun c hc' => ?_), trivial, hw.pushG h3 h1 (fun x hx => ?_), hk'⟩
  ·rw [List.mem_singleton.1 hc']; trivial
  ·rw [List.mem_singleton.1 hx]; exact h2⟩
theorem parts_r (h rb : Nat) (N : List Nd) (hN : NOk N) (hS : Sm N) (R : List SK) (ks : List Int) (liars seed : Int) (sv : Value) (m f t : Int) (w : World) (hG : Gl w) (H : HR [] w h rb N) (hR : RgR [] w rb R) (hs : SlOf intT [] w sv ks) (hkl : ks.length ≤ 1000000)
  (hlk : lacksB N = [⟨m, f, t⟩]) (hbd : (0 ≤ f ∧ f ≤ 1048576) ∧ 0 ≤ t ∧ t ≤ 1048576)
  (hat : ∀ mk ∈ marksB N, ∀ x ∈ (entB N mk).spans, ∀ a, a = x.f ∨ a = x.t → ¬ (x.m = m ∧ f < a ∧ a < t))
  (hne : (firstB N ⟨m, f, 0⟩).length ≠ 0 → rightS ks liars seed = true → (forkB R N ⟨m, f, 0⟩).length ≠ 0) :
  AnsD Tryz.prog 53 [ptr h, vSt sv liars seed] partT [(t - f, explB R N (rightS ks liars seed) ⟨m, f, 0⟩)] w := by
 obtain ⟨⟨hf0, hf1⟩, ht0, ht1⟩ := hbd
 have hNl := hN.len
 have hml := marksB_len N
 have hel := explB_len R N (rightS ks liars seed) ⟨m, f, 0⟩
 have hso : sortI ([(t, true)].map (·.1)) = [t] := by simp [sortI]
 refine calls_e [.x (ptr h), .s (.agg [.x sv, .i liars, .i seed])] Tryz.func53 rfl rfl (Nat.le_of_ble_eq_true rfl) trivial fun B hB => ?_
 repeat refine zq ?_
 refine zr ?_; conv => whnf
 refine ⟨hs.one, ?_⟩; conv => whnf
 intro b3; conv => whnf
 repeat refine zq ?_
 refine zr ?_; conv => whnf
 repeat refine zq ?_
 refine zr ?_; conv => whnf
 refine ansR_call b7 (rd1 (nopS _)) (fun w' hw => by have := lacks_r h rb N hN hS w' (H.ext hw.fr); rw [hlk] at this; exact this) ?_
 intro vl; conv => whnf
 refine ⟨rfl, ?_⟩; conv => whnf
 repeat refine zq ?_
 refine At.block ?_
 refine At.loop1 ?_
 repeat refine zq ?_
 refine zr ?_; conv => whnf
 repeat refine zq ?_
 refine At.cond rfl (fun hc => At.skip ?_) (fun hc => At.exit ?_)
 ·repeat refine zq ?_
  refine At.block ?_
  repeat refine zq ?_
  refine zr ?_; conv => whnf
  refine ⟨rfl, ?_⟩; conv => whnf
  refine ⟨by decide, ?_⟩; conv => whnf
  refine ⟨by simp, ?_⟩; conv => whnf
  refine ⟨encS ⟨m, f, t⟩, ⟨rfl, rfl, by decide, rfl⟩, ?_⟩; conv => whnf
  intro b7; conv => whnf
  repeat refine zq ?_
  refine zr ?_; conv => whnf
  refine rawE_make vI vB ?_
  intro mm; conv => whnf
  refine rawE_insert (id := 3) (key := t) (v := true) kl3 ⟨t, rfl⟩ (fun p _ => ⟨p.1, rfl⟩) vI_inj um85 rfl rfl rfl rfl rfl rfl ?_; conv => whnf
  rw [show aput ([] : List (Int × Bool)) t true = [(t, true)] from rfl]
  repeat refine zq ?_
  refine zr ?_; conv => whnf
  refine ansR_call b12 (rd1 (nopI _)) (fun w' hw => marks_r h rb N hN w' (H.ext hw.fr)) ?_
  intro vm; conv => whnf
  refine ⟨rfl, ?_⟩; conv => whnf
  repeat refine zq ?_
  refine At.block ?_
  refine At.loopH (fun k : Nat => { N := Tryz.f53.ntmps, sl := [(0, some (.x ((ptr h)))), (3, some (.s (.c (.p 0 b3 0)))), (5, some (.x ((.slice none 0 0)))), (7, some (.s (.c (.p 2 b7 0)))), (8, some (.x ((.map (some mm))))), (19, some (.s (.c (.o 1 vl)))), (20, some (.i 1)), (21, some (.i 0)), (30, some (.s (.c (.o 4 vm)))), (31, some (.i ((marksB N).length))), (32, some (.i k))], gl := [], hp := [(4, .row vm 3 1 ((marksB N).map encI)), (3, mapO vI vB mm [(t, true)]), (2, .box b7 50 [.i m, .i f, .i t]), (1, .row vl 50 3 ([⟨m, f, t⟩].map encS)), (0, .box b3 24 [.x sv, .i liars, .i seed])], S := [], ws := w }) (fun k : Nat => k ≤ (marksB N).length) (fun k : Nat => (marksB N).length - k)
   (fun w' hw => ⟨0, Nat.zero_le _, Le.of rfl rfl ⟨rfl, rfl, rfl, rfl, rfl, rfl, congrArg (Value.int .i64) (by first | rfl | simp), rfl, rfl, congrArg (Value.int .i64) (by simp), rfl, trivial⟩, hw.keep [4, 3, 2, 1, 0] rfl rfl rfl, ⟨⟨_, _, rfl⟩, ⟨_, _, rfl⟩, ⟨_, _, _, rfl⟩, ⟨_, _, _, rfl⟩, trivial⟩, ⟨(nopI _).okH, (nopS _).okH, trivial⟩⟩) ?_
  intro k hk
  repeat refine zq ?_
  refine zr ?_; conv => whnf
  repeat refine zq ?_
  refine At.cond rfl (fun hc => At.skip ?_) (fun hc => At.exit ?_)
  ·have hltmk : k < (marksB N).length := by have := of_decide_eq_true hc; omega
   obtain ⟨mk, hmk⟩ : ∃ mk, (marksB N)[k]? = some mk := ⟨_, List.getElem?_eq_getElem hltmk⟩
   have hsl40 := ent_sp hS mk
   repeat refine zq ?_
   refine At.block ?_
   repeat refine zq ?_
   refine zr ?_; conv => whnf
   refine ⟨rfl, ?_⟩; conv => whnf
   refine ⟨by omega, ?_⟩; conv => whnf
   refine ⟨by (try simp only [List.length_map]); omega, ?_⟩; conv => whnf
   refine ⟨encI mk, ⟨rfl, rfl, by omega, by rw [Int.toNat_natCast, List.getElem?_map, hmk]; rfl⟩, ?_⟩; conv => whnf
   repeat refine zq ?_
   refine zr ?_; conv => whnf
   refine ansR_call b36 (rd1 (nopS _)) (fun w' hw => spans_r h rb N hN mk w' (H.ext hw.fr)) ?_
   intro vx; conv => whnf
   refine ⟨rfl, ?_⟩; conv => whnf
   repeat refine zq ?_
   refine At.block ?_
   refine At.loopH (fun j : Nat => { N := Tryz.f53.ntmps, sl := [(0, some (.x ((ptr h)))), (3, some (.s (.c (.p 0 b3 0)))), (5, some (.x ((.slice none 0 0)))), (7, some (.s (.c (.p 2 b7 0)))), (8, some (.x ((.map (some mm))))), (19, some (.s (.c (.o 1 vl)))), (20, some (.i 1)), (21, some (.i 0)), (30, some (.s (.c (.o 4 vm)))), (31, some (.i ((marksB N).length))), (32, some (.i k)), (38, some (.s (.c (.o 5 vx)))), (39, some (.i ((entB N mk).spans.length))), (40, some (.i j))], gl := [], hp := [(5, .row vx 50 3 ((entB N mk).spans.map encS)), (4, .row vm 3 1 ((marksB N).map encI)), (3, mapO vI vB mm [(t, true)]), (2, .box b7 50 [.i m, .i f, .i t]), (1, .row vl 50 3 ([⟨m, f, t⟩].map encS)), (0, .box b3 24 [.x sv, .i liars, .i seed])], S := [], ws := w }) (fun j : Nat => j ≤ (entB N mk).spans.length) (fun j : Nat => (entB N mk).spans.length - j)
    (fun w' hw => ⟨0, Nat.zero_le _, Le.of rfl rfl ⟨rfl, rfl, rfl, rfl, rfl, rfl, rfl, rfl, rfl, rfl, rfl, rfl, congrArg (Value.int .i64) (by simp), rfl, trivial⟩, hw.keep [5, 4, 3, 2, 1, 0] rfl rfl rfl, ⟨⟨_, _, rfl⟩, ⟨_, _, rfl⟩, ⟨_, _, _, rfl⟩, ⟨_, _, _, rfl⟩, ⟨_, _, _, rfl⟩, trivial⟩, ⟨(nopS _).okH, (nopI _).okH, (nopS _).okH, trivial⟩⟩) ?_
   intro j hj
   repeat refine zq ?_
   refine zr ?_; conv => whnf
   repeat refine zq ?_
   refine At.cond rfl (fun hc => At.skip ?_) (fun hc => At.exit ?_)
   ·have hlt : j < (entB N mk).spans.length := by have := of_decide_eq_true hc; omega
    obtain ⟨x, hx⟩ : ∃ x, (entB N mk).spans[j]? = some x := ⟨_, List.getElem?_eq_getElem hlt⟩
    have hxat := hat mk (List.mem_of_getElem? hmk) x (List.mem_of_getElem? hx)
    repeat refine zq ?_
    refine At.block ?_
    repeat refine zq ?_
    refine zr ?_; conv => whnf
    refine ⟨rfl, ?_⟩; conv => whnf
    refine ⟨by omega, ?_⟩; conv => whnf
    refine ⟨by (try simp only [List.length_map]); omega, ?_⟩; conv => whnf
    refine ⟨encS x, ⟨rfl, rfl, by omega, by rw [Int.toNat_natCast, List.getElem?_map, hx]; rfl⟩, ?_⟩; conv => whnf
    intro b12; conv => whnf
    repeat refine zq ?_
    refine zr ?_; conv => whnf
    intro vb; conv => whnf
    refine ⟨rfl, ?_⟩; conv => whnf
    repeat refine zq ?_
    refine At.block ?_
    refine At.loopH (fun i : Nat => { N := Tryz.f53.ntmps, sl := [(0, some (.x ((ptr h)))), (3, some (.s (.c (.p 0 b3 0)))), (5, some (.x ((.slice none 0 0)))), (7, some (.s (.c (.p 2 b7 0)))), (8, some (.x ((.map (some mm))))), (19, some (.s (.c (.o 1 vl)))), (20, some (.i 1)), (21, some (.i 0)), (30, some (.s (.c (.o 4 vm)))), (31, some (.i ((marksB N).length))), (32, some (.i k)), (38, some (.s (.c (.o 5 vx)))), (39, some (.i ((entB N mk).spans.length))), (40, some (.i j)), (12, some (.s (.c (.p 6 b12 0)))), (48, some (.s (.c (.o 7 vb)))), (49, some (.i 2)), (50, some (.i i))], gl := [], hp := [(7, .row vb 3 1 ([x.f, x.t].map encI)), (6, .box b12 50 [.i x.m, .i x.f, .i x.t]), (5, .row vx 50 3 ((entB N mk).spans.map encS)), (4, .row vm 3 1 ((marksB N).map encI)), (3, mapO vI vB mm [(t, true)]), (2, .box b7 50 [.i m, .i f, .i t]), (1, .row vl 50 3 ([⟨m, f, t⟩].map encS)), (0, .box b3 24 [.x sv, .i liars, .i seed])], S := [], ws := w }) (fun i : Nat => i ≤ 2) (fun i : Nat => 2 - i)
     (fun w' hw => ⟨0, by omega, Le.of rfl rfl ⟨rfl, rfl, rfl, rfl, rfl, rfl, rfl, rfl, rfl, rfl, rfl, rfl, rfl, rfl, rfl, rfl, congrArg (Value.int .i64) (by first | rfl | simp), rfl, trivial⟩, hw.keep [7, 6, 5, 4, 3, 2, 1, 0] rfl rfl rfl, ⟨⟨_, _, rfl⟩, ⟨_, _, rfl⟩, ⟨_, _, _, rfl⟩, ⟨_, _, _, rfl⟩, ⟨_, _, _, rfl⟩, ⟨_, _, rfl⟩, ⟨_, _, _, rfl⟩, trivial⟩, ⟨(nopI _).okH, (nopS _).okH, (nopI _).okH, (nopS _).okH, trivial⟩⟩) ?_
    intro i hi
    repeat refine zq ?_
    refine zr ?_; conv => whnf
    repeat refine zq ?_
    refine At.cond rfl (fun hc => At.skip ?_) (fun hc => At.exit ?_)
    ·have hil : i < 2 := by have := of_decide_eq_true hc; omega
     obtain ⟨a, ha⟩ : ∃ a, [x.f, x.t][i]? = some a := ⟨_, List.getElem?_eq_getElem (by simpa using hil)⟩
     have hna : ¬ (x.m = m ∧ f < a ∧ a < t) := hxat a (by
      rcases i with _ | _ | i
      ·left; simpa using ha.symm
      ·right; simpa using ha.symm
      ·omega)
     repeat refine zq ?_
     refine At.block ?_
     repeat refine zq ?_
     refine zr ?_; conv => whnf
     refine ⟨rfl, ?_⟩; conv => whnf
     refine ⟨by omega, ?_⟩; conv => whnf
     refine ⟨by simp; omega, ?_⟩; conv => whnf
     refine ⟨encI a, ⟨rfl, rfl, by omega, by rw [Int.toNat_natCast, List.getElem?_map, ha]; rfl⟩, ?_⟩; conv => whnf
     repeat refine zq ?_
     refine zr ?_; conv => whnf
     repeat refine zq ?_
     refine At.cond rfl (fun hq => ?_) (fun hq => At.skip ?_)
     ·exfalso
      apply hna
      simp only [band, Bool.and_eq_true, decide_eq_true_eq] at hq
      exact ⟨hq.1.1, hq.1.2, hq.2⟩
     ·repeat refine zq ?_
      refine zr ?_; conv => whnf
      refine ⟨⟨by omega, by omega⟩, ?_⟩; conv => whnf
      refine At.nextH fun w' hw => ⟨i + 1, by omega, by omega, Le.of rfl rfl ⟨rfl, rfl, rfl, rfl, rfl, rfl, rfl, rfl, rfl, rfl, rfl, rfl, rfl, rfl, rfl, rfl, rfl, rfl, trivial⟩, hw.keep [7, 6, 5, 4, 3, 2, 1, 0] rfl rfl rfl, ⟨⟨_, _, rfl⟩, ⟨_, _, rfl⟩, ⟨_, _, _, rfl⟩, ⟨_, _, _, rfl⟩, ⟨_, _, _, rfl⟩, ⟨_, _, rfl⟩, ⟨_, _, _, rfl⟩, trivial⟩, ⟨(nopI _).okH, (nopS _).okH, (nopI _).okH, (nopS _).okH, trivial⟩⟩
    ·repeat refine zq ?_
     refine zr ?_; conv => whnf
     refine ⟨⟨by omega, by omega⟩, ?_⟩; conv => whnf
     refine At.nextH fun w' hw => ⟨j + 1, by omega, by omega, Le.of rfl rfl ⟨rfl, rfl, rfl, rfl, rfl, rfl, rfl, rfl, rfl, rfl, rfl, rfl, rfl, rfl, trivial⟩, hw.keep [5, 4, 3, 2, 1, 0] rfl rfl rfl, ⟨⟨_, _, rfl⟩, ⟨_, _, rfl⟩, ⟨_, _, _, rfl⟩, ⟨_, _, _, rfl⟩, ⟨_, _, _, rfl⟩, trivial⟩, ⟨(nopS _).okH, (nopI _).okH, (nopS _).okH, trivial⟩⟩
   ·repeat refine zq ?_
    refine zr ?_; conv => whnf
    refine ⟨⟨by omega, by omega⟩, ?_⟩; conv => whnf
    refine At.nextH fun w' hw => ⟨k + 1, by omega, by omega, Le.of rfl rfl ⟨rfl, rfl, rfl, rfl, rfl, rfl, rfl, rfl, rfl, rfl, rfl, trivial⟩, hw.keep [4, 3, 2, 1, 0] rfl rfl rfl, ⟨⟨_, _, rfl⟩, ⟨_, _, rfl⟩, ⟨_, _, _, rfl⟩, ⟨_, _, _, rfl⟩, trivial⟩, ⟨(nopI _).okH, (nopS _).okH, trivial⟩⟩
  ·repeat refine zq ?_
   refine zr ?_; conv => whnf
   repeat refine zq ?_
   refine zr ?_; conv => whnf
   refine keys_call ?_
   intro bk; conv => whnf
   refine ansR_call b56 (rd1 (nopI _)) (fun w' hw => by
    have := sorted_c mm bk [(t, true)] w' (mapO_at (hw.objs _ (look_mem (s := 3) rfl))) (fun p hp => by rw [List.mem_singleton.1 hp]; exact ⟨by show _ ≤ t; omega, by show t ≤ _; omega⟩) (by simp) (box_v (T := 98) (hw.box (id := 5) rfl) nilS)
    rw [hso] at this; exact this) ?_
   intro vs; conv => whnf
   refine ⟨rfl, ?_⟩; conv => whnf
   repeat refine zq ?_
   refine At.block ?_
   refine At.loop1 ?_
   repeat refine zq ?_
   refine zr ?_; conv => whnf
   repeat refine zq ?_
   refine At.cond rfl (fun hc => At.skip ?_) (fun hc => At.exit ?_)
   ·repeat refine zq ?_
    refine At.block ?_
    repeat refine zq ?_
    refine zr ?_; conv => whnf
    refine ⟨rfl, ?_⟩; conv => whnf
    refine ⟨by decide, ?_⟩; conv => whnf
    refine ⟨by simp, ?_⟩; conv => whnf
    refine ⟨encI t, ⟨rfl, rfl, by decide, rfl⟩, ?_⟩; conv => whnf
    repeat refine zq ?_
    refine zr ?_; conv => whnf
    refine ⟨⟨by omega, by omega⟩, ?_⟩; conv => whnf
    refine ansR_call b28 (rd1 (nopI _)) (fun w' hw => explain_r h rb N hN R ks liars seed sv ⟨m, f, 0⟩ w' (hG.ext hw.fr) (H.ext hw.fr) (hR.fr hw.fr) (hs.fr hw.fr) hkl hne) ?_
    intro ve; conv => whnf
    intro vq; conv => whnf
    refine ⟨rfl, ?_⟩; conv => whnf
    refine ⟨by show (0 + 1) * 32 ≤ 140737488355328; omega, ?_⟩; conv => whnf
    intro vo; conv => whnf
    repeat refine zq ?_
    refine zr ?_; conv => whnf
    repeat refine zq ?_
    refine zr ?_; conv => whnf
    refine ⟨⟨by omega, by omega⟩, ?_⟩; conv => whnf
    repeat refine zq ?_
    refine zr ?_; conv => whnf
    repeat refine zq ?_
    refine At.cond rfl (fun hc => At.skip ?_) (fun hc => At.exit ?_)
    ·exfalso; simp at hc
    ·repeat refine zq ?_
     refine zr ?_; conv => whnf
     refine ⟨⟨by omega, by omega⟩, ?_⟩; conv => whnf
     repeat refine zq ?_
     refine zr ?_; conv => whnf
     repeat refine zq ?_
     refine At.cond rfl (fun hc => At.skip ?_) (fun hc => At.exit ?_)
     ·exfalso; simp at hc
     ·repeat refine zq ?_
      refine zr ?_; conv => whnf
      repeat refine zq ?_
      refine At.ret (At.doneB tab_ok hB _ rfl fun w' hw => ?_)
      refine ⟨vo, rfl, fun S hS' => SlOf.of_rows (T := partT) (hw.row (id := 9) rfl) (fun b hb hm => ?_) (by simp) ⟨⟨[.i (t - f), .x ve], rfl, ve, rfl, SlOf.of_row (enc := fun n => [.i n]) (hw.row (id := 7) rfl) (fun b hb hm => ?_) (by show (explB _ _ _ _).length ≤ _; omega)⟩, trivial⟩, hw.fr⟩
      ·have h1 := (hw.fresh (id := 9) rfl b hb).resolve_left (by simp)
       have h2 := hS' b hm
       replace h1 : w.heap.size ≤ b := h1
       omega
      ·have h1 := (hw.fresh (id := 7) rfl b hb).resolve_left (by simp)
       have h2 := hS' b hm
       replace h1 : w.heap.size ≤ b := h1
       omega
   ·exfalso; simp at hc
 ·exfalso; simp at hc
end Go.Proofs.YtlobacpdhglnkaaGreatDoor
namespace Go.Proofs.YtlobacpdhglnkaaGreatDoor
open Go.RowKit Go.Shelf
attribute [local go_sem] Oper.semAt_some
def zOf : Value → Int
 | .int _ n => n
 | _ => 0
def down (n k : Nat) : List Nat := (List.range' k (n - k)).reverse
theorem dn_step {n k : Nat} (h : k < n) : down n k = down n (k + 1) ++ [k] := by
 unfold down
 obtain ⟨d, rfl⟩ : ∃ d, n = k + (d + 1) := ⟨n - k - 1, by omega⟩
 rw [show k + (d + 1) - k = d + 1 by omega, show k + (d + 1) - (k + 1) = d by omega, List.range'_succ, List.reverse_cons]
theorem dn_all (n : Nat) : down n n = [] := by simp [down]
theorem dn_len (n k : Nat) : (down n k).length = n - k := by simp [down]
set_option maxRecDepth 100000 in
set_option maxHeartbeats 2000000 in
theorem back1_in (n : Nat) (hn : 1 ≤ n) (l Bs b off len cap : Nat) (zs : List Int) (hreach : len * 8 ≤ 140737488351232) (C : World → Prop)
  (hC1 : ∀ W, C W → W.cell? ⟨Bs, 0, none⟩ = some (.slice (some ⟨b, off, none⟩) len cap)) (hC2 : ∀ W, C W → ∀ j, j < len → W.cell? ⟨b, off + j, none⟩ = some (.int .i64 (zs[j]?.getD 0)))
  (J Jx : List Nat → World → Prop)
  (hY : ∀ pre (x : Nat) W, J pre W → pre.length < len → YieldAt Fence.wide (n - 1) Tryz.prog l #[.int .i64 (x : Int), .int .i64 (zs[x]?.getD 0)] W fun e W' =>
   (e = .returned (.bool true) ∧ J (pre ++ [x]) W' ∧ (C W → C W')) ∨ (e = .returned (.bool false) ∧ Jx (pre ++ [x]) W'))
  (W : World) (hC : C W) (h0 : J [] W) :
  CallsIn Fence.wide n Tryz.prog 102 #[.func (.yield l) #[] #[], .pointer (some ⟨Bs, 0, none⟩)] W fun e W' => (∃ v, e = .returned v) ∧ ((∃ ys, ys = down len 0 ∧ J ys W') ∨ (∃ pre, True ∧ Jx pre W')) := by
 refine callsIn_of_wp Tryz.func102 rfl trivial ?_ rfl
 simp only [Tryz.ntmps102, List.size_toArray, List.length_cons, List.length_nil, Nat.reduceAdd, Nat.reduceSub, Array.replicate_succ, Array.replicate_zero, List.push_toArray, List.append_toArray, List.nil_append, List.cons_append]
 have hBs := hC1 W hC
 gi_wp2
 gi_loopw [3] (fun i wr => ∃ k : Nat, k ≤ len ∧ i = .int .i64 ((k : Int) - 1) ∧ J (down len k) wr ∧ C wr) (fun i _ => (zOf i + 1).toNat)
 case atStart => exact ⟨len, Nat.le_refl _, rfl, by rw [dn_all]; exact h0, hC⟩
 case round =>
  obtain ⟨k, hk, rfl, hJs, hCr⟩ := hrel
  have hBr := hC1 wr hCr
  rcases Nat.eq_zero_or_pos k with rfl | hpos
  ·gi_wp2
   go_end0
   exact ⟨⟨_, rfl⟩, .inl ⟨_, rfl, hJs⟩⟩
  ·obtain ⟨k, rfl⟩ : ∃ m, k = m + 1 := ⟨k - 1, by omega⟩
   have e : ((k + 1 : Nat) : Int) - 1 = (k : Int) := by omega
   simp only [e]
   have hcx := hC2 wr hCr k (by omega)
   obtain ⟨fn, tmps, assign, body, hy, hR⟩ := hY _ k wr hJs (by rw [dn_len]; omega)
   gi_wp2
   refine hR.mono ?_
   rintro e W3 (⟨rfl, hJ3, hk3⟩ | ⟨rfl, hJx3⟩)
   ·have hC3 := hk3 hCr
    gi_wp2
    go_roundw
    case rel => exact ⟨k, by omega, rfl, by rw [dn_step (by omega)]; exact hJ3, hC3⟩
    case measure => simp [zOf]
   ·gi_wp2
    refine bodyPost_ret (results_none rfl _ _ _) rfl ?_
    exact ⟨⟨_, rfl⟩, .inr ⟨_, trivial, hJx3⟩⟩
end Go.Proofs.YtlobacpdhglnkaaGreatDoor
namespace Go.Proofs.YtlobacpdhglnkaaGreatDoor
open Go.Vc Rt Go.Bs
set_option maxHeartbeats 1000000
def setOf (l : List Int) : List (Int × Bool) := l.foldl (fun L m => aput L m true) []
theorem setOf_snoc {l : List Int} {j : Nat} {m : Int} (hm : l[j]? = some m) : setOf (l.take (j + 1)) = aput (setOf (l.take j)) m true := by
 rw [take_snoc hm]; unfold setOf; rw [List.foldl_append]; rfl
def stepL (P : List PartD) (bound : Int) (ys : List Int) (L : List (Int × Bool)) (k : Nat) : List (Int × Bool) :=
 if explainsB (aerase L (ys[k]?.getD 0)) P ≤ bound then aput (aerase L (ys[k]?.getD 0)) (ys[k]?.getD 0) true else aerase L (ys[k]?.getD 0)
def blameL (P : List PartD) (bound : Int) (ys : List Int) (L0 : List (Int × Bool)) (pre : List Nat) : List (Int × Bool) := pre.foldl (stepL P bound ys) L0
theorem blameL_snoc {P : List PartD} {bound : Int} {ys : List Int} {L0 : List (Int × Bool)} {pre : List Nat} {k : Nat} : blameL P bound ys L0 (pre ++ [k]) = stepL P bound ys (blameL P bound ys L0 pre) k := by
 unfold blameL; rw [List.foldl_append]; rfl
theorem set2 {x y : Int} (h : x < y) : setOf [x, y] = [(x, true), (y, true)] := by
 have h1 : ¬ x = y := by omega
 have h2 : ¬ y = x := by omega
 simp [setOf, aput, alook, h1, h2]
theorem expl2 {x y c : Int} (h : x < y) : explainsB [(x, true), (y, true)] [(c, [x, y])] = c := by
 have h1 : ¬ x = y := by omega
 have h2 : ¬ y = x := by omega
 simp [explainsB, okPart, hasL, alook, h1, h2]
theorem blame2 {x y c bound : Int} (h : x < y) (hb : 0 ≤ bound) : blameL [(c, [x, y])] bound [x, y] [(x, true), (y, true)] [1, 0] = [(y, true), (x, true)] := by
 have h1 : ¬ x = y := by omega
 have h2 : ¬ y = x := by omega
 simp [blameL, stepL, aerase, explainsB, okPart, hasL, alook, aput, h1, h2, hb]
theorem sort2 {x y : Int} (h : x < y) : sortI [x, y] = [x, y] := by
 unfold sortI
 refine List.mergeSort_of_pairwise ?_
 simp; omega
theorem sort2' {x y : Int} (h : x < y) : sortI [y, x] = [x, y] := by
 have e : [x, y].mergeSort (fun x y => decide (x ≤ y)) = [y, x].mergeSort (fun x y => decide (x ≤ y)) := mergeSort_of_perm_i (List.Perm.swap y x [])
 unfold sortI
 rw [← e]; exact sort2 h
theorem back_c (v : Value) (hv : v.oneCell' = true) (w : World) : Calls Tryz.prog 55 #[v] w (fun e w' => ∃ b, e = .returned (.func (.func 102) #[] #[ptr b]) ∧ w'.heap[b]? = some (.cells #[v] 22 (0, 0)) ∧ w.heap.size ≤ b ∧ Ext w w') := by
 refine calls_plainB [.x v] Tryz.func55 rfl rfl (Nat.le_of_ble_eq_true rfl) rfl fun B hB => ?_
 repeat refine zq ?_
 refine zr ?_; conv => whnf
 refine ⟨hv, ?_⟩; conv => whnf
 intro b1; conv => whnf
 repeat refine zq ?_
 refine zr ?_; conv => whnf
 repeat refine zq ?_
 refine At.ret (At.doneB tab_ok hB _ rfl fun w' hw => ⟨b1, rfl, hw.box (id := 0) rfl, (hw.fresh (id := 0) rfl b1 (by simp [LO.blks])).resolve_left (by simp), hw.fr⟩)
theorem back_call {st : St} {d : Option Nat} {K : St → Prop} {v : Value} (h1 : ∀ w, Holds st w → v.oneCell' = true) (hk : ∀ b : Nat, st.pushK (.box b 22 [.x v]) (fun n st' => goPut st' d (.s (.c (.x (.func (.func 102) #[] #[ptr b])))) K)) : UCall Tryz.prog st 55 [v] d K :=
 .inl ⟨b55, fun hwf w hw => (back_c v (h1 w hw) w).mono fun e w' ⟨b, he, h1, h2, h3⟩ => by
  have hk' := hk b
  rw [pushK_eq] at hk'
  refine ⟨.s (.c (.x (.func (.func 102) #[] #[ptr b]))), st.push (.box b 22 [.x v]), he, ⟨rfl, rfl, rfl, rfl⟩, hwf.push (fun c hc' => ?_), trivial, hw.pushG h3 h1 (fun x hx => ?_), hk'⟩
  ·rw [List.mem_singleton.1 hc']; trivial
  ·rw [List.mem_singleton.1 hx]; exact h2⟩
theorem box_put {W : World} {b l : Nat} {T : TypeId} {cells : List CV} {o o' : Obj} (h : (LO.box b T cells).holds W) (ho : W.heap[l]? = some o) (hc : o.isCells = false) : (LO.box b T cells).holds (W.putObj l o') := by
 have hne : b ≠ l := fun e => by
  subst e
  rw [show W.heap[b]? = _ from h] at ho
  cases ho; cases hc
 exact (World.putObj_heap_other hne).trans h
theorem row_put {W : World} {l : Nat} {v : Value} {E size : Nat} {L : List (List CV)} {o o' : Obj} (h : (LO.row v E size L).holds W) (ho : W.heap[l]? = some o) (hc : o.isCells = false) : (LO.row v E size L).holds (W.putObj l o') := by
 refine row_agree h fun b hb => World.putObj_heap_other fun e => ?_
 subst e
 obtain ⟨⟨_, ⟨rfl, _⟩ | ⟨g, o1, cap, cur, rfl, hg, _⟩⟩, _⟩ := h
 ·simp [blkOf] at hb
 ·rw [List.mem_singleton.1 hb, hg] at ho
  cases ho; cases hc
theorem blameNone_r (h rb : Nat) (N : List Nd) (hN : NOk N) (hS : Sm N) (ks : List Int) (liars seed : Int) (sv : Value) (bound : Int) (w : World) (H : HR [] w h rb N) (hs : SlOf intT [] w sv ks) (hkl : ks.length ≤ 1000000)
  (hR1 : rightS ks liars seed = true) (hb0 : 0 ≤ bound) (hcnt : count (lacksB N) ≤ bound) :
  AnsR Tryz.prog 24 [ptr h, vSt sv liars seed, vI bound] [.row 3 1 [], .p (.c (.i 4))] w := by
 refine calls_eM [.x (ptr h), .s (.agg [.x sv, .i liars, .i seed]), .i bound] Tryz.func24 rfl rfl (Nat.le_of_ble_eq_true rfl) trivial fun B hB => ?_
 repeat refine zq ?_
 refine zr ?_; conv => whnf
 refine ⟨hs.one, ?_⟩; conv => whnf
 intro b4; conv => whnf
 intro b5; conv => whnf
 repeat refine zq ?_
 refine At.block ?_
 repeat refine zq ?_
 refine zr ?_; conv => whnf
 refine ans_call b47 rfl (fun w' hw => rightS_c ks liars seed [] sv w' (hs.fr hw.fr) hkl) ?_; conv => whnf
 repeat refine zq ?_
 refine At.cond rfl (fun hq => ?_) (fun hq => ?_)
 ·exfalso
  simp only [bor, hR1, Bool.not_true, Bool.false_or, decide_eq_true_eq] at hq
  omega
 ·repeat refine zq ?_
  refine At.planG tab_ok mixed [(1, .box b5 3 [.i bound])] (.take 0 (.take 2 (.br 1 (.take 3 (.take 4 (.done))) (.nob)))) (by kernel_rfl) (by kernel_rfl) ⟨rfl, trivial⟩ ?_; conv => whnf
  refine ⟨?_, trivial⟩; conv => whnf
  refine ans_call b9 rfl (fun w' hw => lack_r h rb N hN hS w' (H.ext hw.fr)) ?_; conv => whnf
  refine ⟨⟨⟨rfl, trivial⟩, fun w' hw => hw.fr⟩, ?_⟩; conv => whnf
  repeat refine zq ?_
  refine At.cond rfl (fun hq => ?_) (fun hq => ?_)
  ·repeat refine zq ?_
   refine zr ?_; conv => whnf
   repeat refine zq ?_
   refine At.ret (At.doneM tab_ok hB _ rfl fun w' hw => ?_)
   exact ⟨[.slice none 0 0], rfl, ⟨nil_holds, fun b hb => (by simp [blkOf] at hb), fun u hu => (by cases hu), rfl⟩, hw.fr⟩
  ·exfalso
   have := of_decide_eq_false hq
   omega
theorem blame_r (h rb : Nat) (N : List Nd) (hN : NOk N) (hS : Sm N) (R : List SK) (ks : List Int) (liars seed : Int) (sv : Value) (m f t bound x y : Int) (w : World) (hG : Gl w) (H : HR [] w h rb N) (hR : RgR [] w rb R) (hs : SlOf intT [] w sv ks) (hkl : ks.length ≤ 1000000)
  (hlk : lacksB N = [⟨m, f, t⟩]) (hbd : (0 ≤ f ∧ f ≤ 1048576) ∧ 0 ≤ t ∧ t ≤ 1048576)
  (hat : ∀ mk ∈ marksB N, ∀ x ∈ (entB N mk).spans, ∀ a, a = x.f ∨ a = x.t → ¬ (x.m = m ∧ f < a ∧ a < t))
  (hne : (firstB N ⟨m, f, 0⟩).length ≠ 0 → rightS ks liars seed = true → (forkB R N ⟨m, f, 0⟩).length ≠ 0)
  (hR1 : rightS ks liars seed = true) (hb0 : 0 ≤ bound) (hcnt : bound < count (lacksB N)) (hbt : bound < t - f) (hexp : explB R N true ⟨m, f, 0⟩ = [x, y]) (hxy : x < y) (hxr : iR x) (hyr : iR y) :
  AnsR Tryz.prog 24 [ptr h, vSt sv liars seed, vI bound] [.row 3 1 ([x, y].map encI), .p (.c (.i 0))] w := by
 refine calls_eM [.x (ptr h), .s (.agg [.x sv, .i liars, .i seed]), .i bound] Tryz.func24 rfl rfl (Nat.le_of_ble_eq_true rfl) trivial fun B hB => ?_
 repeat refine zq ?_
 refine zr ?_; conv => whnf
 refine ⟨hs.one, ?_⟩; conv => whnf
 intro b4; conv => whnf
 intro b5; conv => whnf
 repeat refine zq ?_
 refine At.block ?_
 repeat refine zq ?_
 refine zr ?_; conv => whnf
 refine ans_call b47 rfl (fun w' hw => rightS_c ks liars seed [] sv w' (hs.fr hw.fr) hkl) ?_; conv => whnf
 repeat refine zq ?_
 refine At.cond rfl (fun hq => ?_) (fun hq => ?_)
 ·exfalso
  simp only [bor, hR1, Bool.not_true, Bool.false_or, decide_eq_true_eq] at hq
  omega
 clear hq
 repeat refine zq ?_
 refine At.planG tab_ok mixed [(1, .box b5 3 [.i bound])] (.take 0 (.take 2 (.br 1 (.take 3 (.take 4 (.done))) (.nob)))) (by kernel_rfl) (by kernel_rfl) ⟨rfl, trivial⟩ ?_; conv => whnf
 refine ⟨?_, trivial⟩; conv => whnf
 refine ans_call b9 rfl (fun w' hw => lack_r h rb N hN hS w' (H.ext hw.fr)) ?_; conv => whnf
 refine ⟨⟨⟨rfl, trivial⟩, fun w' hw => hw.fr⟩, ?_⟩; conv => whnf
 repeat refine zq ?_
 refine At.cond rfl (fun hq => ?_) (fun hq => At.skip ?_)
 ·exfalso
  have := of_decide_eq_true hq
  omega
 clear hq
 repeat refine zq ?_
 refine zr ?_; conv => whnf
 refine fresh_call b53 (fun w' hw => by
  have := parts_r h rb N hN hS R ks liars seed sv m f t w' (hG.ext hw.fr) (H.ext hw.fr) (hR.fr hw.fr) (hs.fr hw.fr) hkl hlk hbd hat hne
  rw [hR1, hexp] at this; exact this) ?_
 intro lv w1 w2 hw1 hx12 hl
 have hf4 : w.heap.size ≤ b4 := (hw1.fresh (id := 0) rfl b4 (by simp [LO.blks])).resolve_left (by simp)
 have hf5 : w.heap.size ≤ b5 := (hw1.fresh (id := 1) rfl b5 (by simp [LO.blks])).resolve_left (by simp)
 have hx : Ext w w2 := hw1.fr.trans hx12
 clear hw1
 replace hl : SlOf partT [b5, b4] w2 lv [(t - f, [x, y])] := hl
 have hln := hl.len
 replace hln : slen lv = 1 := by simpa using hln
 conv => whnf
 refine rawE_make vI vB ?_
 intro mm; conv => whnf
 intro b8; conv => whnf
 intro b9; conv => whnf
 refine ⟨hl.one, ?_⟩; conv => whnf
 refine ⟨rfl, ?_⟩; conv => whnf
 repeat refine zq ?_
 refine zr ?_; conv => whnf
 refine ⟨hl.sl, ?_⟩; conv => whnf
 repeat refine zq ?_
 refine At.block ?_
 refine At.loop1 ?_
 repeat refine zq ?_
 refine zr ?_; conv => whnf
 repeat refine zq ?_
 refine At.cond rfl (fun hc => At.skip ?_) (fun hc => At.exit ?_)
 ·obtain ⟨_, ⟨u, rfl, hu⟩, hc2⟩ := hl.at (i := 0) (x := (t - f, [x, y])) rfl
  have hul := hu.len
  replace hul : slen u = 2 := by simpa using hul
  repeat refine zq ?_
  refine At.block ?_
  repeat refine zq ?_
  refine zr ?_; conv => whnf
  refine ⟨by omega, ?_⟩; conv => whnf
  refine ⟨by omega, ?_⟩; conv => whnf
  refine ⟨[.i (t - f), .x u], fun w' hw => hc2 w' hw.fr, ?_⟩; conv => whnf
  intro b11; conv => whnf
  refine ⟨hu.one, ?_⟩; conv => whnf
  repeat refine zq ?_
  refine zr ?_; conv => whnf
  refine ⟨hu.sl, ?_⟩; conv => whnf
  repeat refine zq ?_
  refine At.block ?_
  refine At.loopH (fun j : Nat => { N := Tryz.f24.ntmps, sl := [(5, some (.s (.c (.p 1 b5 0)))), (8, some (.s (.c (.p 3 b8 0)))), (9, some (.s (.c (.p 4 b9 0)))), (33, some (.x lv)), (34, some (.i 1)), (35, some (.i 0)), (40, some (.x u)), (41, some (.i 2)), (42, some (.i j))], gl := [], hp := [(4, .box b9 98 [.x (.map (some mm))]), (3, .box b8 96 [.x lv]), (2, mapO vI vB mm (setOf ([x, y].take j))), (1, .box b5 3 [.i bound])], S := [b5, b4], ws := w2 }) (fun j : Nat => j ≤ 2) (fun j : Nat => 2 - j)
   (fun w' hw => ⟨0, by omega, Le.of rfl rfl ⟨rfl, rfl, rfl, rfl, congrArg (Value.int .i64) hln, rfl, rfl, congrArg (Value.int .i64) hul, rfl, trivial⟩, hw.keep [4, 3, 2, 1] rfl rfl rfl, ⟨⟨_, _, rfl⟩, ⟨_, _, rfl⟩, ⟨_, _, rfl⟩, trivial⟩, trivial⟩) ?_
  intro j hj
  repeat refine zq ?_
  refine zr ?_; conv => whnf
  repeat refine zq ?_
  refine At.cond rfl (fun hc => At.skip ?_) (fun hc => At.exit ?_)
  ·have hjl : j < 2 := by have := of_decide_eq_true hc; omega
   obtain ⟨mk, hmk⟩ : ∃ mk, [x, y][j]? = some mk := ⟨_, List.getElem?_eq_getElem (by simpa using hjl)⟩
   repeat refine zq ?_
   refine At.block ?_
   repeat refine zq ?_
   refine zr ?_; conv => whnf
   refine ⟨by omega, ?_⟩; conv => whnf
   refine ⟨by omega, ?_⟩; conv => whnf
   refine ⟨[.i mk], fun w' hw => hu.load (n := 1) hw.fr hmk rfl, ?_⟩; conv => whnf
   repeat refine zq ?_
   refine zr ?_; conv => whnf
   refine rawE_update (id := 2) (key := mk) (v := true) kl3 ⟨mk, rfl⟩ (fun p _ => ⟨p.1, rfl⟩) vI_inj um85 rfl rfl rfl rfl rfl rfl ?_; conv => whnf
   repeat refine zq ?_
   refine zr ?_; conv => whnf
   refine ⟨⟨by omega, by omega⟩, ?_⟩; conv => whnf
   refine At.nextH fun w' hw => ⟨j + 1, by omega, by omega, Le.of rfl rfl ⟨rfl, rfl, rfl, rfl, rfl, rfl, rfl, rfl, rfl, trivial⟩, hw.keep [4, 3, 2, 1] (by simp only [setOf_snoc hmk]; rfl) rfl rfl, ⟨⟨_, _, rfl⟩, ⟨_, _, rfl⟩, ⟨_, _, rfl⟩, trivial⟩, trivial⟩
  ·have hge : j = 2 := by have := of_decide_eq_false hc; omega
   subst hge
   rw [show setOf ([x, y].take 2) = [(x, true), (y, true)] from set2 hxy]
   repeat refine zq ?_
   refine zr ?_; conv => whnf
   refine ⟨⟨by omega, by omega⟩, ?_⟩; conv => whnf
   repeat refine zq ?_
   refine zr ?_; conv => whnf
   repeat refine zq ?_
   refine At.cond rfl (fun hc => At.skip ?_) (fun hc => At.exit ?_)
   ·exfalso; simp at hc
   repeat refine zq ?_
   refine At.planG tab_ok mixed [(3, .box b8 96 [.x lv]), (4, .box b9 98 [.x (.map (some mm))]), (1, .box b5 3 [.i bound])] (.take 0 (.take 1 (.take 3 (.br 2 (.take 4 (.done)) (.nob))))) (by kernel_rfl) (by kernel_rfl) ⟨rfl, rfl, rfl, trivial⟩ ?_; conv => whnf
   refine ⟨?_, trivial⟩; conv => whnf
   refine ans_call b54 rfl (fun w' hw => explains_c [(t - f, [x, y])] [(x, true), (y, true)] lv mm w' ((hl.fr hw.fr).avoid (fun b hb => by cases hb)) (mapO_at (hw.objs _ (look_mem (s := 2) rfl))) (fun p hp => by rw [List.mem_singleton.1 hp]; exact ⟨by show 0 ≤ t - f; omega, by show t - f ≤ _; omega⟩) (by simp)) ?_; conv => whnf
   refine ⟨⟨⟨rfl, rfl, rfl, trivial⟩, fun w' hw => hw.fr⟩, ?_⟩; conv => whnf
   rw [expl2 hxy]
   repeat refine zq ?_
   refine At.cond rfl (fun hq => ?_) (fun hq => At.skip ?_)
   ·exfalso
    have := of_decide_eq_true hq
    omega
   clear hq
   repeat refine zq ?_
   refine zr ?_; conv => whnf
   refine keys_call ?_
   intro bk; conv => whnf
   refine ansR_call b56 (rd1 (nopI _)) (fun w' hw => by
    have := sorted_c mm bk [(x, true), (y, true)] w' (mapO_at (hw.objs _ (look_mem (s := 2) rfl))) (fun p hp => by simp at hp; rcases hp with rfl | rfl <;> assumption) (by simp) (box_v (T := 98) (hw.box (id := 5) rfl) nilS)
    rw [show sortI ([(x, true), (y, true)].map (·.1)) = [x, y] from sort2 hxy] at this; exact this) ?_
   intro vs; conv => whnf
   refine back_call (fun w' hw => by obtain ⟨a, n, c, e⟩ := hw.sl (id := 6) rfl; rw [e]; rfl) ?_
   intro bb; conv => whnf
   repeat refine zq ?_
   refine At.block ?_
   refine At.rangeF (α := Nat) (gf := 102) (lb := #[ptr bb]) rfl (enters_of Tryz.func102 (by kernel_rfl) rfl) (fun k => #[vI k, vI ([x, y][k]?.getD 0)]) (fun _ => rfl) (fun l => l = down 2 0) 2 (fun W => (LO.box bb 22 [.x vs]).holds W ∧ (LO.row vs 3 1 ([x, y].map encI)).holds W)
    (fun pre => [(4, .box b9 98 [.x (.map (some mm))]), (3, .box b8 96 [.x lv]), (2, mapO vI vB mm (blameL [(t - f, [x, y])] bound [x, y] [(x, true), (y, true)] pre)), (1, .box b5 3 [.i bound])]) (fun _ => rfl) (fun w' hw => memS_keep hw [4, 3, 2, 1] rfl) ?hC0 ?hCf
    (fun a k => ((a.put (some 59) (vI k)).put (some 60) (vI ([x, y][k]?.getD 0))).put (some 15) (vI ([x, y][k]?.getD 0))) ?hassign
    (fun k => [(15, some (.i ([x, y][k]?.getD 0))), (5, some (.s (.c (.p 1 b5 0)))), (8, some (.s (.c (.p 3 b8 0)))), (9, some (.s (.c (.p 4 b9 0))))]) ?hrel (fun pre k => ⟨⟨⟨_, _, rfl⟩, ⟨_, _, rfl⟩, ⟨_, _, rfl⟩, trivial⟩, trivial⟩) ?hbody 8 [(9, some (.s (.c (.p 4 b9 0))))] ⟨rfl, trivial⟩ (fun D l => ⟨⟨⟨_, _, rfl⟩, trivial⟩, trivial⟩) ?hdone
   case hC0 =>
    intro w' hw
    refine ⟨⟨hw.box (id := 7) rfl, hw.row (id := 6) rfl⟩, fun W l o o' hl ho hc hC => ⟨box_put hC.1 ho hc, row_put hC.2 ho hc⟩, ?_⟩
    have hbx := hw.box (id := 7) rfl
    have hrw := hw.row (id := 6) rfl
    have hlt1 : bb < w'.heap.size := (Array.getElem?_eq_some_iff.1 hbx).1
    have hlt2 := LO.blk_lt hrw
    obtain ⟨⟨_, ⟨rfl, h0⟩ | ⟨g, off, cap, cur, rfl, _⟩⟩, _⟩ := id hrw
    ·simp at h0
    intro l J Jx W hW _ _ hY hJ
    refine back1_in 3 (by omega) l bb g off 2 cap [x, y] (by decide) (fun W => (LO.box bb 22 [.x (.slice (some ⟨g, off, none⟩) 2 cap)]).holds W ∧ (LO.row (.slice (some ⟨g, off, none⟩) 2 cap) 3 1 ([x, y].map encI)).holds W) (fun W hC => ?_) (fun W hC j hj => ?_) J Jx hY W ⟨(hW.block bb hlt1).trans hbx, row_agree hrw fun b hb => hW.block b (hlt2 b hb)⟩ hJ
    ·have := box_get hC.1
     simp [World.cell?, this, dens, CV.den]
    ·obtain ⟨z, hz⟩ : ∃ z, [x, y][j]? = some z := ⟨_, List.getElem?_eq_getElem (by simpa using hj)⟩
     have hcell := row_cells hC.2 (k := j) (by rw [List.getElem?_map, hz]; rfl)
     have := hcell _ _ _ rfl 0 _ rfl
     have hA : ((elemAddr ⟨g, off, none⟩ 1 (j : Int) 0).add 0) = ⟨g, off + j, none⟩ := by
      unfold elemAddr Addr.add
      by_cases h0 : j = 0 <;> simp [h0]
     rw [hA] at this
     rw [hz]
     exact this
   case hCf =>
    intro w' hw W W' hC hf
    have hlt1 : bb < W.heap.size := (Array.getElem?_eq_some_iff.1 (box_get hC.1)).1
    have hlt2 := LO.blk_lt hC.2
    have key : ∀ b, b ∈ (LO.box bb 22 [.x vs]).blks ∨ b ∈ (LO.row vs 3 1 ([x, y].map encI)).blks → b ∉ [b9, b8, mm, b5] := by
     intro b hb hm
     simp only [List.mem_cons, List.not_mem_nil, or_false] at hm
     rcases hb with hb | hb
     ·rcases hm with rfl | rfl | rfl | rfl
      ·exact hw.apart (i := 7) (j := 4) rfl rfl (by decide) _ hb (by simp [LO.blks])
      ·exact hw.apart (i := 7) (j := 3) rfl rfl (by decide) _ hb (by simp [LO.blks])
      ·exact hw.apart (i := 7) (j := 2) rfl rfl (by decide) _ hb (by simp [mapO, LO.blks, nub])
      ·exact hw.apart (i := 7) (j := 1) rfl rfl (by decide) _ hb (by simp [LO.blks])
     ·rcases hm with rfl | rfl | rfl | rfl
      ·exact hw.apart (i := 6) (j := 4) rfl rfl (by decide) _ hb (by simp [LO.blks])
      ·exact hw.apart (i := 6) (j := 3) rfl rfl (by decide) _ hb (by simp [LO.blks])
      ·exact hw.apart (i := 6) (j := 2) rfl rfl (by decide) _ hb (by simp [mapO, LO.blks, nub])
      ·exact hw.apart (i := 6) (j := 1) rfl rfl (by decide) _ hb (by simp [LO.blks])
    replace hf : Fr [b9, b8, mm, b5] W W' := hf
    exact ⟨(hf.block bb hlt1 (key bb (.inl (by simp [LO.blks])))).trans hC.1, row_agree hC.2 fun b hb => hf.block b (hlt2 b hb) (key b (.inr hb))⟩
   case hassign =>
    intro l a k W K hr hK
    refine wpIn_region_lit (l := [_]) ?_
    refine wpListIn_plain rfl fun K' hK' => ⟨fun f _ => trivial, ?_⟩
    rw [Oper.semAt_eq _ _ _ (by intro c hc; cases hc)]
    refine hK' _ _ ?_
    show K _ W
    have hd : a.defers = [] := hr.defers
    have hz : a.tmps.size = 73 := hr.size
    obtain ⟨tm, df⟩ := a
    simp only at hd hz
    subst hd
    refine (congrArg (fun a => K a W) ?_).mp hK
    simp [Act.put, Act.eval, hz, Array.getElem?_setIfInBounds]
   case hrel =>
    intro a k hr
    have r1 := put_rel (d := some 59) (ks := []) (v := .i k) rfl hr (.inl ⟨fun k hk => (by cases hk), rfl, trivial⟩)
    have r2 := put_rel (d := some 60) (ks := []) (v := .i ([x, y][k]?.getD 0)) rfl r1 (.inl ⟨fun k hk => (by cases hk), rfl, trivial⟩)
    have r3 := put_rel (d := some 15) (ks := []) (v := .i ([x, y][k]?.getD 0)) rfl r2 (.inl ⟨fun k hk => (by cases hk), rfl, trivial⟩)
    refine ⟨r3.size, r3.defers, fun s v hl => ?_⟩
    exact (fun (hle : LeL _ _) => let ⟨u', h1, h2⟩ := LeL_spec hle s v hl; h2 ▸ r3.sl s u' h1) ⟨rfl, rfl, rfl, rfl, trivial⟩
   case hbody =>
    intro l pre k W hpN hI
    have hl2 := hI.lift hl
    generalize hLd : blameL [(t - f, [x, y])] bound [x, y] [(x, true), (y, true)] pre = L at hI hl2
    have hsn := blameL_snoc (P := [(t - f, [x, y])]) (bound := bound) (ys := [x, y]) (L0 := [(x, true), (y, true)]) (pre := pre) (k := k)
    rw [hLd] at hsn
    simp only [hLd]
    repeat refine Rnd.At.seq ?_
    refine Rnd.At.block ?_
    repeat refine Rnd.At.seq ?_
    refine Rnd.At.region tab_ok ?_; conv => whnf
    refine rawE_delete (id := 2) (key := [x, y][k]?.getD 0) kl3 ⟨_, rfl⟩ (fun p _ => ⟨p.1, rfl⟩) vI_inj um85 rfl rfl rfl rfl ?_; conv => whnf
    repeat refine Rnd.At.seq ?_
    refine Rnd.At.planG tab_ok mixed [(3, .box b8 96 [.x lv]), (4, .box b9 98 [.x (.map (some mm))]), (1, .box b5 3 [.i bound])] (.take 0 (.take 1 (.take 3 (.br 2 (.take 4 (.done)) (.nob))))) (by kernel_rfl) (by kernel_rfl) ⟨rfl, rfl, rfl, trivial⟩ ?_; conv => whnf
    refine ⟨?_, trivial⟩; conv => whnf
    refine ans_call b54 rfl (fun w' hw => explains_c [(t - f, [x, y])] (aerase L ([x, y][k]?.getD 0)) lv mm w' ((hl2.fr hw.fr).avoid (fun b hb => by cases hb)) (mapO_at (hw.objs _ (look_mem (s := 2) rfl))) (fun p hp => by rw [List.mem_singleton.1 hp]; exact ⟨by show 0 ≤ t - f; omega, by show t - f ≤ _; omega⟩) (by simp)) ?_; conv => whnf
    refine ⟨⟨⟨rfl, rfl, rfl, trivial⟩, fun w' hw => hw.fr⟩, ?_⟩; conv => whnf
    repeat refine Rnd.At.seq ?_
    refine Rnd.At.cond rfl (fun hq => ?_) (fun hq => Rnd.At.skip ?_)
    ·repeat refine Rnd.At.seq ?_
     refine Rnd.At.region tab_ok ?_; conv => whnf
     refine rawE_update (id := 2) (key := [x, y][k]?.getD 0) (v := true) kl3 ⟨_, rfl⟩ (fun p _ => ⟨p.1, rfl⟩) vI_inj um85 rfl rfl rfl rfl rfl rfl ?_; conv => whnf
     refine ⟨fun hwf a w' hr hw => ?_⟩
     show Holds (memS _ _ _) w'
     refine hw.keep [4, 3, 2, 1] ?_ rfl rfl
     simp only [memS, hsn]
     unfold stepL
     rw [if_pos (of_decide_eq_true hq)]
     rfl
    ·refine ⟨fun hwf a w' hr hw => ?_⟩
     show Holds (memS _ _ _) w'
     refine hw.keep [4, 3, 2, 1] ?_ rfl rfl
     simp only [memS, hsn]
     unfold stepL
     rw [if_neg (of_decide_eq_false hq)]
     rfl
   case hdone =>
    intro D l hl'
    subst hl'
    have hL : blameL [(t - f, [x, y])] bound [x, y] [(x, true), (y, true)] (down 2 0) = [(y, true), (x, true)] := blame2 hxy hb0
    simp only [hL]
    repeat refine zq ?_
    refine zr ?_; conv => whnf
    refine keys_call ?_
    intro bk2; conv => whnf
    refine ansR_call b56 (rd1 (nopI _)) (fun w' hw => by
     have := sorted_c mm bk2 [(y, true), (x, true)] w' (mapO_at (hw.objs _ (look_mem (s := 2) rfl))) (fun p hp => by simp at hp; rcases hp with rfl | rfl <;> assumption) (by simp) (box_v (T := 98) (hw.box (id := 9) rfl) nilS)
     rw [show sortI ([(y, true), (x, true)].map (·.1)) = [x, y] from sort2' hxy] at this; exact this) ?_
    intro vs2; conv => whnf
    repeat refine zq ?_
    refine At.ret (At.doneD tab_ok hB (iD := 8) (D := D) _ [_, _] _ rfl rfl fun w' hw => ?_)
    have hS2 : ∀ b ∈ [b5, b4], w.heap.size ≤ b := fun b hb => by simp at hb; rcases hb with rfl | rfl <;> assumption
    refine ⟨[vs2], rfl, ⟨hw.row (id := 10) rfl, fun b hb => ?_, fun u hu => (by cases hu), rfl⟩, Fr.over1 hx hw.fr hS2⟩
    rcases hw.fresh (id := 10) rfl b hb with h' | h'
    ·exact hS2 b h'
    ·exact Nat.le_trans hx.size h'
 ·exfalso
  have := of_decide_eq_false hc
  omega
end Go.Proofs.YtlobacpdhglnkaaGreatDoor
namespace Go.Proofs.YtlobacpdhglnkaaGreatDoor
open Go.Vc Rt Go.Bs
def decF : Nat → Nat → List UInt8
 | 0, _ => []
 | f + 1, u => if u < 10 then [UInt8.ofNat (48 + u)] else decF f (u / 10) ++ [UInt8.ofNat (48 + u % 10)]
theorem decF_eq : ∀ (f u : Nat), u < f → Lib.decDigits u = decF f u
 | 0, u, h => by omega
 | f + 1, u, h => by
  rw [Lib.decDigits, decF]
  by_cases h1 : u < 10
  ·rw [dif_pos h1, if_pos h1]
  ·rw [dif_neg h1, if_neg h1, decF_eq f (u / 10) (by omega)]
def itF (n : Int) : List UInt8 := if n < 0 then 45 :: decF (n.natAbs + 1) n.natAbs else decF (n.toNat + 1) n.toNat
theorem itF_eq : Lib.itoa = itF := by
 funext n
 unfold Lib.itoa itF
 split
 ·rw [decF_eq (n.natAbs + 1) _ (by omega)]
 ·rw [decF_eq (n.toNat + 1) _ (by omega)]
def ixA (c : UInt8) : List UInt8 → Nat → Int
 | [], _ => -1
 | b :: l, k => if b == c then (k : Int) else ixA c l (k + 1)
theorem ixA_eq (c : UInt8) : ∀ (l : List UInt8) (k : Nat), ixA c l k = if Lib.indexByte l c = -1 then -1 else Lib.indexByte l c + k
 | [], k => by simp [ixA, Lib.indexByte]
 | b :: l, k => by
  have ih := ixA_eq c l (k + 1)
  have hg := Lib.indexByte_ge l c
  unfold ixA Lib.indexByte
  by_cases hb : (b == c) = true
  ·rw [if_pos hb, if_pos hb, if_neg (by decide)]; omega
  ·rw [if_neg hb, if_neg hb, ih]
   by_cases h1 : Lib.indexByte l c = -1
   ·simp [h1]
   ·have h2 : (Lib.indexByte l c == -1) = false := by simpa using h1
    have h3 : (if (Lib.indexByte l c == -1) = true then (-1 : Int) else Lib.indexByte l c + 1) = Lib.indexByte l c + 1 := by rw [h2]; rfl
    rw [h3, if_neg h1, if_neg (by omega)]
    push_cast; omega
def ixF (l : List UInt8) (c : UInt8) : Int := ixA c l 0
theorem ixF_eq : Lib.indexByte = ixF := by
 funext l c
 unfold ixF
 rw [ixA_eq]
 split
 ·assumption
 ·simp
def intF (n : Int) : B := itF n ++ [59]
def numF (n : Int) : B := if n < 0 then [] else intF n
def textF (s : B) : B := itF s.length ++ [58] ++ s ++ [44]
def numsF (l : List Int) : B := itF l.length ++ [91] ++ (l.map intF).flatten ++ [93]
theorem intF_eq : intS = intF := by funext n; unfold intS intF; rw [itF_eq]
theorem numF_eq : numS = numF := by funext n; unfold numS numF; rw [intF_eq]
theorem textF_eq : textS = textF := by funext n; unfold textS textF; rw [itF_eq]
theorem numsF_eq : numsS = numsF := by funext n; unfold numsS numsF; rw [itF_eq, intF_eq]
def spanF (s : Span) : B := numF s.m ++ numF s.f ++ numF s.t
def spansF (l : List Span) : B := (l.map spanF).flatten
def headF (e : En) : B := numF e.author ++ numF e.seq ++ numF e.day ++ numsF e.knows ++ numF e.kind ++ numF e.circle ++ numF e.who
def midF (e : En) : B := intF e.n ++ intF e.m ++ intF e.ref ++ numsF e.keys ++ numF e.spans.length
def hasCF (s : B) (c : UInt8) : Bool := decide (0 ≤ ixF s c)
theorem hasCF_eq : hasC = hasCF := by funext s c; unfold hasC hasCF; rw [ixF_eq]
def okCF (e : En) (i : Nat) : Bool := (empties e).getD i true || hasCF (useOf e) (letters.getD i 0)
theorem okCF_eq : okC = okCF := by funext e i; unfold okC okCF; rw [hasCF_eq]
def plainF (e : En) : Bool := (List.range 8).all (okCF e)
theorem plainF_eq : Bs.plainB = plainF := by funext e; unfold Bs.plainB plainF; rw [okCF_eq]
def badAF (e : En) : Bool := ((((((!isKeyB e.author) || decide (e.seq < 0)) || decide (1048576 ≤ e.seq)) || !isDayB e.day) || decide (e.kind < 0)) || decide (21 ≤ e.kind)) || !plainF e
theorem badAF_eq : badA = badAF := by funext e; unfold badA badAF; rw [plainF_eq]
def rightF (e : En) : Bool := if badAF e then false else if badK e then false else if badS e then false else if badM e then false else numbersB e
theorem rightF_eq : rightB = rightF := by funext e; unfold rightB rightF; rw [badAF_eq]
def entryF (e : En) : B := if rightF e then headF e ++ midF e ++ spansF e.spans ++ textF e.text else []
theorem spanF_eq : spanS = spanF := by funext s; unfold spanS spanF; rw [numF_eq]
theorem spansF_eq : spansS = spansF := by funext s; unfold spansS spansF; rw [spanF_eq]
theorem headF_eq : headS = headF := by funext s; unfold headS headF; rw [numF_eq, numsF_eq]
theorem midF_eq : midS = midF := by funext s; unfold midS midF; rw [intF_eq, numF_eq, numsF_eq]
theorem entryF_eq : entryS = entryF := by funext e; unfold entryS entryF; rw [rightF_eq, headF_eq, midF_eq, spansF_eq, textF_eq]
def numberVF (c : UInt8) (least : Int) (s : B) : Option (Int × B) :=
 let at' := ixF (headOf s) c
 if at' < 0 then none else
 match Lib.atoiAll ((headOf s).take at'.toNat) with
 | .ok n => if itF n ≠ (headOf s).take at'.toNat ∨ n < least then none else some (n, s.drop (at' + 1).toNat)
 | _ => none
theorem numberVF_eq : numberV = numberVF := by funext c l s; unfold numberV numberVF; rw [itF_eq, ixF_eq] <;> rfl
def numberRF (c : UInt8) (least : Int) (r : Rd) : Int × Rd :=
 match numberVF c least r.s with
 | some (n, s) => (n, ⟨s, r.bad⟩)
 | none => (0, failR)
theorem numberRF_eq : numberR = numberRF := by funext c l r; unfold numberR numberRF; rw [numberVF_eq] <;> rfl
def numRF (r : Rd) : Int × Rd := numberRF 59 0 r
def intRF (r : Rd) : Int × Rd := numberRF 59 (-9223372036854775808) r
theorem numRF_eq : numR = numRF := by funext r; unfold numR numRF; rw [numberRF_eq]
theorem intRF_eq : intR = intRF := by funext r; unfold intR intRF; rw [numberRF_eq]
def textRF (r : Rd) : B × Rd :=
 let (n, r) := numberRF 58 0 r
 if n > r.s.length then ([], failR) else
 let s := r.s.take n.toNat
 let r := closeR [44] ⟨r.s.drop n.toNat, r.bad⟩
 if r.bad then ([], r) else (s, r)
theorem textRF_eq : textR = textRF := by funext r; unfold textR textRF; rw [numberRF_eq] <;> rfl
def itemsF : Nat → List Int → Rd → List Int × Rd
 | 0, out, r => (out, r)
 | k + 1, out, r => if r.bad then (out, r) else
  let (n, r) := intRF r
  itemsF k (out ++ [n]) r
theorem itemsF_eq : ∀ (k : Nat) (out : List Int) (r : Rd), itemsL k out r = itemsF k out r
 | 0, out, r => rfl
 | k + 1, out, r => by
  unfold itemsL itemsF
  rw [intRF_eq]
  split
  ·rfl
  ·exact itemsF_eq k _ _
def numsRF (r : Rd) : List Int × Rd :=
 let (n, r) := numberRF 91 0 r
 let (out, r) := itemsF n.toNat [] r
 let r := closeR [93] r
 if r.bad then ([], r) else (out, r)
theorem numsRF_eq : numsR = numsRF := by
 funext r
 unfold numsR numsRF
 rw [numberRF_eq]
 simp only [itemsF_eq]
def readLF : Nat → List Span → Rd → List Span × Rd
 | 0, out, r => (out, r)
 | k + 1, out, r => if 0 < r.s.length ∧ out.length ≤ 40 then readLF k (out ++ [⟨(numRF r).1, (numRF (numRF r).2).1, (numRF (numRF (numRF r).2).2).1⟩]) (numRF (numRF (numRF r).2).2).2 else (out, r)
theorem readLF_eq : ∀ (k : Nat) (out : List Span) (r : Rd), readL k out r = readLF k out r
 | 0, out, r => rfl
 | k + 1, out, r => by
  unfold readL readLF
  rw [numRF_eq]
  split
  ·exact readLF_eq k _ _
  ·rfl
def rawF (s : B) : En × Rd :=
 let a := numRF ⟨s, false⟩
 let b := numRF a.2
 let c := numRF b.2
 let d := numsRF c.2
 let e := numRF d.2
 let f := numRF e.2
 let g := numRF f.2
 let h := intRF g.2
 let i := intRF h.2
 let j := intRF i.2
 let k := numsRF j.2
 let n := numRF k.2
 let l := readLF n.1.toNat [] n.2
 let t := textRF l.2
 (⟨a.1, b.1, c.1, d.1, e.1, f.1, g.1, h.1, i.1, j.1, k.1, l.1, t.1⟩, t.2)
theorem rawF_eq : rawE = rawF := by
 funext s
 unfold rawE rawF
 rw [numRF_eq, numsRF_eq, intRF_eq, textRF_eq]
 simp only [readLF_eq]
def readsAs (s : B) (e : En) : Bool :=
 decide ((rawF s).1.author = e.author) && decide ((rawF s).1.seq = e.seq) && decide ((rawF s).1.day = e.day) && decide ((rawF s).1.knows = e.knows) && decide ((rawF s).1.kind = e.kind) && decide ((rawF s).1.circle = e.circle) && decide ((rawF s).1.who = e.who) &&
 decide ((rawF s).1.n = e.n) && decide ((rawF s).1.m = e.m) && decide ((rawF s).1.ref = e.ref) && decide ((rawF s).1.keys = e.keys) && decide ((rawF s).1.spans = e.spans) && decide ((rawF s).1.text = e.text) &&
 (!(rawF s).2.bad && decide ((rawF s).2.s = [])) && (rightF e && decide (entryF e = s))
theorem reads_spec {s : B} {e : En} (h : readsAs s e = true) : readE s = (e, 0) ∧ entryS e = s := by
 simp only [readsAs, Bool.and_eq_true, decide_eq_true_eq, Bool.not_eq_true'] at h
 obtain ⟨⟨⟨⟨⟨⟨⟨⟨⟨⟨⟨⟨⟨⟨h1, h2⟩, h3⟩, h4⟩, h5⟩, h6⟩, h7⟩, h8⟩, h9⟩, h10⟩, h11⟩, h12⟩, h13⟩, h14, h15⟩, h16, h17⟩ := h
 have he : (rawE s).1 = e := by
  rw [rawF_eq]
  generalize rawF s = q at *
  obtain ⟨⟨⟩, r⟩ := q
  obtain ⟨⟩ := e
  simp only at h1 h2 h3 h4 h5 h6 h7 h8 h9 h10 h11 h12 h13
  subst h1 h2 h3 h4 h5 h6 h7 h8 h9 h10 h11 h12 h13
  rfl
 have hd : doneR (rawE s).2 = true := by
  unfold doneR
  rw [rawF_eq, h14, h15]
  rfl
 have hr : rightB e = true := by rw [rightF_eq]; exact h16
 have hs : entryS e = s := by rw [entryF_eq]; exact h17
 refine ⟨?_, hs⟩
 have hb : badE s = false := by
  unfold badE
  rw [he, hd, hr, hs]
  simp
 unfold readE
 rw [hb, he]
 rfl
def insI (x : Int) : List Int → List Int
 | [] => [x]
 | y :: r => if x ≤ y then x :: y :: r else y :: insI x r
def isI : List Int → List Int
 | [] => []
 | x :: r => insI x (isI r)
theorem insI_perm (x : Int) : ∀ l : List Int, (insI x l).Perm (x :: l)
 | [] => .refl _
 | y :: r => by
  unfold insI
  split
  ·exact .refl _
  ·exact ((insI_perm x r).cons y).trans (.swap ..)
theorem isI_perm : ∀ l : List Int, (isI l).Perm l
 | [] => .refl _
 | x :: r => (insI_perm x _).trans ((isI_perm r).cons x)
theorem insI_sorted {x : Int} : ∀ {l : List Int}, l.Pairwise (· ≤ ·) → (insI x l).Pairwise (· ≤ ·)
 | [], _ => by simp [insI]
 | y :: r, h => by
  rw [List.pairwise_cons] at h
  unfold insI
  split
  ·rename_i hxy
   rw [List.pairwise_cons]
   refine ⟨fun z hz => ?_, List.pairwise_cons.2 h⟩
   rcases List.mem_cons.1 hz with rfl | hz
   ·exact hxy
   ·exact Int.le_trans hxy (h.1 z hz)
  ·rename_i hxy
   rw [List.pairwise_cons]
   refine ⟨fun z hz => ?_, insI_sorted h.2⟩
   rcases List.mem_cons.1 ((insI_perm x r).mem_iff.1 hz) with rfl | hz
   ·omega
   ·exact h.1 z hz
theorem isI_sorted : ∀ l : List Int, (isI l).Pairwise (· ≤ ·)
 | [] => by simp [isI]
 | x :: r => insI_sorted (isI_sorted r)
theorem sortF_eq : sortI = isI := by
 funext l
 have h : (isI l).mergeSort (fun x y => decide (x ≤ y)) = l.mergeSort (fun x y => decide (x ≤ y)) := mergeSort_of_perm_i (isI_perm l)
 unfold sortI
 rw [← h]
 exact List.mergeSort_of_pairwise ((isI_sorted l).imp fun h => by simpa using h)
def marksF (N : List Nd) : List Int := isI (N.map Nd.mark)
theorem marksF_eq : marksB = marksF := by funext N; unfold marksB marksF; rw [sortF_eq]
def headsF (N : List Nd) : List Int := isI (headL (namedB N) N)
theorem headsF_eq : headsB = headsF := by funext N; unfold headsB headsF; rw [sortF_eq]
end Go.Proofs.YtlobacpdhglnkaaGreatDoor
namespace Go.Proofs.YtlobacpdhglnkaaGreatDoor
open Go.Vc Rt Go.Bs
set_option maxRecDepth 100000
def foundT : List UInt8 := [99, 105, 114, 99, 108, 101, 32, 114, 111, 116, 97, 116, 105, 110, 103, 32, 59, 32, 112, 101, 114, 105, 111, 100, 32, 50, 32, 100, 97, 121, 115, 32, 59, 32, 108, 97, 115, 116, 32, 51, 32, 59, 32, 100, 117, 101, 32, 49, 48, 32, 99, 111, 105, 110, 115, 32, 59, 32, 112, 97, 121, 32, 112, 111, 116, 32, 59]
def sT0 : List UInt8 := [49, 59, 48, 59, 48, 59, 48, 91, 93, 48, 59, 48, 59, 48, 59, 48, 59, 48, 59, 45, 49, 59, 51, 91, 49, 59, 50, 59, 51, 59, 93, 48, 59, 54, 55, 58, 99, 105, 114, 99, 108, 101, 32, 114, 111, 116, 97, 116, 105, 110, 103, 32, 59, 32, 112, 101, 114, 105, 111, 100, 32, 50, 32, 100, 97, 121, 115, 32, 59, 32, 108, 97, 115, 116, 32, 51, 32, 59, 32, 100, 117, 101, 32, 49, 48, 32, 99, 111, 105, 110, 115, 32, 59, 32, 112, 97, 121, 32, 112, 111, 116, 32, 59, 44]
def sT1 : List UInt8 := [50, 59, 48, 59, 48, 59, 49, 91, 48, 59, 93, 51, 59, 48, 59, 51, 59, 49, 48, 59, 48, 59, 45, 49, 59, 48, 91, 93, 48, 59, 48, 58, 44]
def sT2 : List UInt8 := [51, 59, 48, 59, 48, 59, 49, 91, 49, 59, 93, 52, 59, 48, 59, 48, 59, 49, 48, 59, 48, 59, 49, 59, 48, 91, 93, 48, 59, 48, 58, 44]
def sT3 : List UInt8 := [49, 59, 49, 59, 48, 59, 49, 91, 50, 59, 93, 49, 56, 59, 48, 59, 48, 59, 48, 59, 48, 59, 45, 49, 59, 48, 91, 93, 48, 59, 48, 58, 44]
def sT4 : List UInt8 := [49, 59, 50, 59, 48, 59, 49, 91, 51, 59, 93, 49, 57, 59, 48, 59, 48, 59, 48, 59, 48, 59, 51, 59, 48, 91, 93, 48, 59, 48, 58, 44]
def sT5 : List UInt8 := [50, 59, 49, 59, 48, 59, 49, 91, 52, 59, 93, 49, 57, 59, 48, 59, 48, 59, 48, 59, 48, 59, 51, 59, 48, 91, 93, 48, 59, 48, 58, 44]
def sT6 : List UInt8 := [51, 59, 49, 59, 48, 59, 49, 91, 53, 59, 93, 49, 57, 59, 48, 59, 48, 59, 48, 59, 48, 59, 51, 59, 48, 91, 93, 48, 59, 48, 58, 44]
def sT7 : List UInt8 := [49, 59, 51, 59, 48, 59, 49, 91, 54, 59, 93, 50, 48, 59, 48, 59, 48, 59, 48, 59, 48, 59, 51, 59, 48, 91, 93, 48, 59, 48, 58, 44]
def sT8 : List UInt8 := [50, 59, 50, 59, 48, 59, 49, 91, 55, 59, 93, 50, 48, 59, 48, 59, 48, 59, 48, 59, 48, 59, 51, 59, 48, 91, 93, 48, 59, 48, 58, 44]
def sT9 : List UInt8 := [51, 59, 50, 59, 48, 59, 49, 91, 56, 59, 93, 50, 48, 59, 48, 59, 48, 59, 48, 59, 48, 59, 51, 59, 48, 91, 93, 48, 59, 48, 58, 44]
def sT10 : List UInt8 := [50, 59, 51, 59, 48, 59, 49, 91, 57, 59, 93, 49, 56, 59, 48, 59, 48, 59, 48, 59, 49, 59, 45, 49, 59, 48, 91, 93, 48, 59, 48, 58, 44]
def sT11 : List UInt8 := [49, 59, 52, 59, 48, 59, 49, 91, 49, 48, 59, 93, 49, 57, 59, 48, 59, 48, 59, 48, 59, 49, 59, 49, 48, 59, 48, 91, 93, 48, 59, 48, 58, 44]
def sT12 : List UInt8 := [50, 59, 52, 59, 48, 59, 49, 91, 49, 49, 59, 93, 49, 57, 59, 48, 59, 48, 59, 48, 59, 49, 59, 49, 48, 59, 48, 91, 93, 48, 59, 48, 58, 44]
def sT13 : List UInt8 := [51, 59, 51, 59, 48, 59, 49, 91, 49, 50, 59, 93, 49, 57, 59, 48, 59, 48, 59, 48, 59, 49, 59, 49, 48, 59, 48, 91, 93, 48, 59, 48, 58, 44]
def sT14 : List UInt8 := [49, 59, 53, 59, 48, 59, 49, 91, 49, 51, 59, 93, 50, 48, 59, 48, 59, 48, 59, 48, 59, 49, 59, 49, 48, 59, 48, 91, 93, 48, 59, 48, 58, 44]
def sT15 : List UInt8 := [50, 59, 53, 59, 48, 59, 49, 91, 49, 52, 59, 93, 50, 48, 59, 48, 59, 48, 59, 48, 59, 49, 59, 49, 48, 59, 48, 91, 93, 48, 59, 48, 58, 44]
def sT16 : List UInt8 := [51, 59, 52, 59, 48, 59, 49, 91, 49, 53, 59, 93, 50, 48, 59, 48, 59, 48, 59, 48, 59, 49, 59, 49, 48, 59, 48, 91, 93, 48, 59, 48, 58, 44]
def sT17 : List UInt8 := [51, 59, 53, 59, 48, 59, 49, 91, 49, 54, 59, 93, 55, 59, 48, 59, 51, 59, 48, 59, 48, 59, 45, 49, 59, 48, 91, 93, 49, 59, 50, 59, 48, 59, 54, 59, 48, 58, 44]
def sT18 : List UInt8 := [51, 59, 53, 59, 48, 59, 49, 91, 49, 54, 59, 93, 55, 59, 48, 59, 51, 59, 48, 59, 48, 59, 45, 49, 59, 48, 91, 93, 49, 59, 50, 59, 52, 59, 49, 48, 59, 48, 58, 44]
def sE0 : En := ⟨1, 0, 0, [], 0, 0, 0, 0, 0, -1, [1, 2, 3], [], foundT⟩
def sE1 : En := ⟨2, 0, 0, [0], 3, 0, 3, 10, 0, -1, [], [], []⟩
def sE2 : En := ⟨3, 0, 0, [1], 4, 0, 0, 10, 0, 1, [], [], []⟩
def sE3 : En := ⟨1, 1, 0, [2], 18, 0, 0, 0, 0, -1, [], [], []⟩
def sE4 : En := ⟨1, 2, 0, [3], 19, 0, 0, 0, 0, 3, [], [], []⟩
def sE5 : En := ⟨2, 1, 0, [4], 19, 0, 0, 0, 0, 3, [], [], []⟩
def sE6 : En := ⟨3, 1, 0, [5], 19, 0, 0, 0, 0, 3, [], [], []⟩
def sE7 : En := ⟨1, 3, 0, [6], 20, 0, 0, 0, 0, 3, [], [], []⟩
def sE8 : En := ⟨2, 2, 0, [7], 20, 0, 0, 0, 0, 3, [], [], []⟩
def sE9 : En := ⟨3, 2, 0, [8], 20, 0, 0, 0, 0, 3, [], [], []⟩
def sE10 : En := ⟨2, 3, 0, [9], 18, 0, 0, 0, 1, -1, [], [], []⟩
def sE11 : En := ⟨1, 4, 0, [10], 19, 0, 0, 0, 1, 10, [], [], []⟩
def sE12 : En := ⟨2, 4, 0, [11], 19, 0, 0, 0, 1, 10, [], [], []⟩
def sE13 : En := ⟨3, 3, 0, [12], 19, 0, 0, 0, 1, 10, [], [], []⟩
def sE14 : En := ⟨1, 5, 0, [13], 20, 0, 0, 0, 1, 10, [], [], []⟩
def sE15 : En := ⟨2, 5, 0, [14], 20, 0, 0, 0, 1, 10, [], [], []⟩
def sE16 : En := ⟨3, 4, 0, [15], 20, 0, 0, 0, 1, 10, [], [], []⟩
def sE17 : En := ⟨3, 5, 0, [16], 7, 0, 3, 0, 0, -1, [], [⟨2, 0, 6⟩], []⟩
def sE18 : En := ⟨3, 5, 0, [16], 7, 0, 3, 0, 0, -1, [], [⟨2, 4, 10⟩], []⟩
def sN0 : Nd := ⟨1, sT0, 0, sE0, 0, []⟩
def sN1 : Nd := ⟨2, sT1, 1, sE1, 1, [1]⟩
def sN2 : Nd := ⟨3, sT2, 2, sE2, 2, [3]⟩
def sN3 : Nd := ⟨1, sT3, 3, sE3, 3, [7]⟩
def sN4 : Nd := ⟨1, sT4, 4, sE4, 4, [15]⟩
def sN5 : Nd := ⟨2, sT5, 5, sE5, 5, [31]⟩
def sN6 : Nd := ⟨3, sT6, 6, sE6, 6, [63]⟩
def sN7 : Nd := ⟨1, sT7, 7, sE7, 7, [127]⟩
def sN8 : Nd := ⟨2, sT8, 8, sE8, 8, [255]⟩
def sN9 : Nd := ⟨3, sT9, 9, sE9, 9, [511]⟩
def sN10 : Nd := ⟨2, sT10, 10, sE10, 10, [1023]⟩
def sN11 : Nd := ⟨1, sT11, 11, sE11, 11, [2047]⟩
def sN12 : Nd := ⟨2, sT12, 12, sE12, 12, [4095]⟩
def sN13 : Nd := ⟨3, sT13, 13, sE13, 13, [8191]⟩
def sN14 : Nd := ⟨1, sT14, 14, sE14, 14, [16383]⟩
def sN15 : Nd := ⟨2, sT15, 15, sE15, 15, [32767]⟩
def sN16 : Nd := ⟨3, sT16, 16, sE16, 16, [65535]⟩
def sN17 : Nd := ⟨3, sT17, 17, sE17, 17, [131071]⟩
def sN18 : Nd := ⟨3, sT18, 18, sE18, 17, [131071]⟩
def nds : List Nd := [sN0, sN1, sN2, sN3, sN4, sN5, sN6, sN7, sN8, sN9, sN10, sN11, sN12, sN13, sN14, sN15, sN16, sN17, sN18]
def nd (k : Nat) : Nd := nds.getD k default
def skOf (n : Nd) : SK := (n.key, n.text)
def rs : List SK := nds.map skOf
def ent (k : Nat) : En := { (nd k).e with seq := 0, knows := [] }
def nH (k : Nat) : List Nd := nds.take k
def nG : List Nd := nds.take 17 ++ [nd 18]
def smallN (n : Int) : Bool := decide (-1 ≤ n) && decide (n ≤ 1000000)
def enOk (e : En) : Bool := smallN e.author && smallN e.day && smallN e.kind && smallN e.circle && smallN e.who && smallN e.n && smallN e.m && smallN e.ref && e.keys.all smallN && e.spans.all (fun s => smallN s.m && smallN s.f && smallN s.t) && decide (e.keys.length ≤ 1000) && decide (e.spans.length ≤ 40) && decide (e.text.length ≤ 1000)
theorem smallN_R {n : Int} (h : smallN n = true) : iR n := by
 simp only [smallN, Bool.and_eq_true, decide_eq_true_eq] at h
 unfold iR; omega
theorem enOk_R {e : En} (h : enOk e = true) (hs : e.seq = 0) (hk : e.knows = []) : EnR e := by
  simp only [enOk, Bool.and_eq_true, decide_eq_true_eq, List.all_eq_true] at h
  obtain ⟨⟨⟨⟨⟨⟨⟨⟨⟨⟨⟨⟨h1, h2⟩, h3⟩, h4⟩, h5⟩, h6⟩, h7⟩, h8⟩, h9⟩, h10⟩, h11⟩, h12⟩, h13⟩ := h
  exact { author := smallN_R h1, seq := by rw [hs]; exact ⟨by decide, by decide⟩, day := smallN_R h2, kind := smallN_R h3, circle := smallN_R h4, who := smallN_R h5, n := smallN_R h6, m := smallN_R h7, ref := smallN_R h8,
          knows := by rw [hk]; intro x hx; cases hx
          keys := fun x hx => smallN_R (h9 x hx), spans := fun s hs => ⟨smallN_R (h10 s hs).1.1, smallN_R (h10 s hs).1.2, smallN_R (h10 s hs).2⟩,
          lk := by rw [hk]; simp
          ly := by omega
          ls := by omega
          lt := by omega }
def okText (n : Nd) : Bool := readsAs n.text n.e && enOk n.e && decide (n.e.author = n.key) && isKeyB n.key && decide (n.text.length ≤ 1000) && smallN n.mark
theorem texts_ok : nds.all okText = true := by kernel_rfl
def okAdd (N : List Nd) (n : Nd) : Bool :=
 (alook (hidx N) n.mark).isNone && (downB N n.e.knows [] true).2 && decide ((downB N n.e.knows [] true).1 = n.past) && (decide (n.e.ref = -1) || decide (n.e.kind = 8) || refB N n.past n.e.ref) && decide (N.length < 4000) && decide (levelB N n.e.knows = n.level)
def okWrite (N : List Nd) (n : Nd) : Bool := decide (seqW N n.e.author 0 (marksF N) = n.e.seq) && decide (headsF N = n.e.knows) && okAdd N n
theorem writes_ok : (List.range 18).all (fun k => okWrite (nH k) (nd k)) = true := by kernel_rfl
theorem writeY_ok : okWrite (nH 17) (nd 18) = true := by kernel_rfl
theorem addY_ok : okAdd (nH 18) (nd 18) = true := by kernel_rfl
def okSign (R : List SK) (n : Nd) : Bool := (alook (idxL R) (n.key, n.text)).isNone && decide (n.mark = (R.length : Int))
theorem signs_ok : (List.range 19).all (fun k => okSign (rs.take k) (nd k)) = true := by kernel_rfl
def okVal (R : List SK) (n : Nd) : Bool := validR R n.key n.text n.mark
theorem vals_ok : (List.range 19).all (fun k => (nds.take (k + 1)).all (okVal (rs.take (k + 1)))) = true := by kernel_rfl
theorem has_ok : (nds.take 17).all (fun n => (alook (hidx (nH 18)) n.mark).isSome) = true ∧ nds.all (fun n => (alook (hidx nds) n.mark).isSome) = true := ⟨by kernel_rfl, by kernel_rfl⟩
theorem down_ok17 : (List.range 17).all (testB (downB (nH 17) (marksF (nH 17)) [] true).1) = true := by kernel_rfl
theorem down_ok19 : (List.range 19).all (testB (downB nds [17, 18] [] true).1) = true := by kernel_rfl
theorem sm_ok : nds.all (fun n => decide (n.e.spans.length ≤ 40)) = true := by kernel_rfl
def spendsF (N : List Nd) : List Int := (marksF N).filter fun m => decide ((entB N m).kind = 7)
def lacksF (N : List Nd) : List Span := norm (lackTo N (spendsF N) (spendsF N).length)
theorem spendsF_eq : spendsB = spendsF := by funext N; unfold spendsB spendsF; rw [marksF_eq]
theorem lacksF_eq : lacksB = lacksF := by funext N; unfold lacksB lacksF; rw [spendsF_eq]
theorem spends_ok : decide (spendsF nds = [17, 18]) = true := by kernel_rfl
theorem lacks_ok : decide (lacksF nds = [⟨2, 4, 6⟩]) = true := by kernel_rfl
theorem count_ok : decide (count (lacksF nds) = 2) = true := by kernel_rfl
theorem with_ok : decide (withB nds [17, 18] ⟨2, 4, 0⟩ = [17, 18]) = true := by kernel_rfl
theorem withM_ok : decide (withB nds (marksF nds) ⟨2, 4, 0⟩ = [17, 18]) = true := by kernel_rfl
theorem pair_ok : decide (pairB nds false [17, 18] = [17, 18]) = true ∧ decide (pairB nds true [17, 18] = [17, 18]) = true := ⟨by kernel_rfl, by kernel_rfl⟩
theorem cuts_ok : (marksF nds).all (fun mk => (entB nds mk).spans.all fun x => !(decide (x.m = 2) && (decide (4 < x.f) && decide (x.f < 6) || decide (4 < x.t) && decide (x.t < 6)))) = true := by kernel_rfl
theorem askS_ok : decide (askB [[1, 2], [2, 3], [1, 2, 3]] [1, 3] = ([2], true)) = true := by kernel_rfl
theorem right_ok : rightS [1, 2, 3] 0 0 = true := by kernel_rfl
theorem ents_ok : (List.range 19).all (fun k => enOk (ent k)) = true := by kernel_rfl
end Go.Proofs.YtlobacpdhglnkaaGreatDoor
namespace Go.Proofs.YtlobacpdhglnkaaGreatDoor
open Go.Vc Rt Go.Bs
structure TF (n : Nd) : Prop where
 rd : readE n.text = (n.e, 0)
 tx : entryS n.e = n.text
 au : n.e.author = n.key
 key : isKeyB n.key = true
 len : n.text.length ≤ 1000
 mr : iR n.mark
 en : enOk n.e = true
theorem tf {n : Nd} (h : n ∈ nds) : TF n := by
 have := List.all_eq_true.1 texts_ok n h
 simp only [okText, Bool.and_eq_true, decide_eq_true_eq] at this
 obtain ⟨⟨⟨⟨⟨h1, h2⟩, h3⟩, h4⟩, h5⟩, h6⟩ := this
 exact ⟨(reads_spec h1).1, (reads_spec h1).2, h3, h4, h5, smallN_R h6, h2⟩
theorem nds_len : nds.length = 19 := rfl
theorem nd_get {k : Nat} (h : k < 19) : nds[k]? = some (nd k) := by
 have hl : k < nds.length := h
 unfold nd
 rw [List.getD_eq_getElem?_getD, List.getElem?_eq_getElem hl]; rfl
theorem nd_mem {k : Nat} (h : k < 19) : nd k ∈ nds := List.mem_of_getElem? (nd_get h)
theorem tfk {k : Nat} (h : k < 19) : TF (nd k) := tf (nd_mem h)
theorem nH_snoc {k : Nat} (h : k < 19) : nH (k + 1) = nH k ++ [nd k] := take_snoc (nd_get h)
theorem rs_snoc {k : Nat} (h : k < 19) : rs.take (k + 1) = rs.take k ++ [skOf (nd k)] := take_snoc (by rw [rs, List.getElem?_map, nd_get h]; rfl)
theorem val_ok {k : Nat} {n : Nd} (hk : k < 19) (hn : n ∈ nds.take (k + 1)) : validR (rs.take (k + 1)) n.key n.text n.mark = true :=
 List.all_eq_true.1 (List.all_eq_true.1 vals_ok k (List.mem_range.2 hk)) n hn
theorem take_mem {k j : Nat} (h : j < k) (hk : k ≤ 19) : nd j ∈ nds.take k := List.mem_of_getElem? (i := j) (by rw [List.getElem?_take, if_pos h]; exact nd_get (by omega))
theorem add_new {R : List SK} {N : List Nd} {n : Nd} (hv : validR R n.key n.text n.mark = true) (hT : TF n) (hok : okAdd N n = true) : addB R N n.key n.text n.mark = (N ++ [n], 0) := by
 simp only [okAdd, Bool.and_eq_true, decide_eq_true_eq, Option.isNone_iff_eq_none] at hok
 obtain ⟨⟨⟨⟨⟨h1, h2⟩, h3⟩, h4⟩, h5⟩, h6⟩ := hok
 unfold addB
 rw [if_neg (by rw [hv]; decide), hT.rd]
 simp only
 rw [if_neg (by rw [hT.au]; simp), if_neg (by rw [h1]; decide), if_neg (by rw [h2]; decide), if_neg ?_, if_neg (by omega), h3, h6]
 rw [h3]
 rintro ⟨⟨h7, h8⟩, h9⟩
 simp only [Bool.or_eq_true, decide_eq_true_eq] at h4
 rcases h4 with (h4 | h4) | h4
 ·exact h7 h4
 ·exact h8 h4
 ·rw [h4] at h9; cases h9
theorem add_old {R : List SK} {N : List Nd} {n : Nd} (hv : validR R n.key n.text n.mark = true) (hT : TF n) (h : (alook (hidx N) n.mark).isSome = true) : addB R N n.key n.text n.mark = (N, 0) := by
 unfold addB
 rw [if_neg (by rw [hv]; decide), hT.rd]
 simp only
 rw [if_neg (by rw [hT.au]; simp), if_pos h]
theorem write_new {R : List SK} {N : List Nd} {n : Nd} (hT : TF n) (hs : okSign R n = true) (hv : validR (R ++ [skOf n]) n.key n.text n.mark = true) (hw : okWrite N n = true) {e : En} (he : e = { n.e with seq := 0, knows := [] }) :
  writeT N e = n.text ∧ writeR R N e = R ++ [skOf n] ∧ writeA R N e = (N ++ [n], 0) ∧ writeM R N e = n.mark := by
 simp only [okWrite, Bool.and_eq_true, decide_eq_true_eq] at hw
 obtain ⟨⟨h1, h2⟩, h3⟩ := hw
 simp only [okSign, Bool.and_eq_true, decide_eq_true_eq, Option.isNone_iff_eq_none] at hs
 obtain ⟨s1, s2⟩ := hs
 have hau : e.author = n.key := by rw [he]; exact hT.au
 have hent : entW N e = n.e := by
  rw [he]
  unfold entW
  simp only
  rw [marksF_eq, headsF_eq, h1, h2]
 have ht : writeT N e = n.text := by unfold writeT; rw [hent]; exact hT.tx
 have hsg : sgT R n.key n.text = (n.key, n.text, n.mark) := by
  unfold sgT signM
  rw [if_pos hT.key, if_pos hT.key, s1, s2]; rfl
 have hr : writeR R N e = R ++ [skOf n] := by
  unfold writeR signL
  rw [ht, hau, if_pos ⟨hT.key, s1⟩]; rfl
 have ha : writeA R N e = (N ++ [n], 0) := by
  unfold writeA
  rw [hr, ht, hau, hsg]
  exact add_new hv hT h3
 refine ⟨ht, hr, ha, ?_⟩
 unfold writeM
 rw [ha, ht, hau, hsg]
 rfl
theorem nok_snoc {R : List SK} {N : List Nd} {n : Nd} (hN : NOk N) (hT : TF n) (h : addB R N n.key n.text n.mark = (N ++ [n], 0)) : NOk (N ++ [n]) := by
 have hl := hT.len
 have hk := hT.key
 simp only [isKeyB, Bool.and_eq_true, decide_eq_true_eq] at hk
 have := nok_add (R := R) hN (k := n.key) (t := n.text) (mk := n.mark) ⟨⟨by show _ ≤ n.key; omega, by show n.key ≤ _; omega⟩, by show n.text.length ≤ _; omega⟩ (by omega) hT.mr
 rw [h] at this
 exact this
theorem writes_k {k : Nat} (h : k < 18) : okWrite (nH k) (nd k) = true := List.all_eq_true.1 writes_ok k (List.mem_range.2 h)
theorem sign_k {k : Nat} (h : k < 19) : okSign (rs.take k) (nd k) = true := List.all_eq_true.1 signs_ok k (List.mem_range.2 h)
theorem val_k {k : Nat} (h : k < 19) : validR (rs.take k ++ [skOf (nd k)]) (nd k).key (nd k).text (nd k).mark = true := by
 rw [← rs_snoc h]; exact val_ok h (take_mem (by omega) (by omega))
theorem okAdd_of {N : List Nd} {n : Nd} (h : okWrite N n = true) : okAdd N n = true := by
 simp only [okWrite, Bool.and_eq_true] at h; exact h.2
theorem add_k {R : List SK} {k : Nat} (h : k < 18) (hv : validR R (nd k).key (nd k).text (nd k).mark = true) : addB R (nH k) (nd k).key (nd k).text (nd k).mark = (nH (k + 1), 0) := by
 rw [nH_snoc (by omega)]; exact add_new hv (tfk (by omega)) (okAdd_of (writes_k h))
theorem nok_nH : ∀ k, k ≤ 18 → NOk (nH k)
 | 0, _ => nok_nil
 | k + 1, h => by
  have hv := val_ok (k := k) (n := nd k) (by omega) (take_mem (by omega) (by omega))
  have ha := add_k (k := k) (by omega) hv
  rw [nH_snoc (by omega)] at ha ⊢
  exact nok_snoc (nok_nH k (by omega)) (tfk (by omega)) ha
theorem mark_k {k : Nat} (h : k < 19) : (nd k).mark = (k : Int) := by
 have := sign_k h
 simp only [okSign, Bool.and_eq_true, decide_eq_true_eq] at this
 rw [this.2, List.length_take, rs, List.length_map, nds_len, Nat.min_eq_left (by omega)]
theorem write_k {k : Nat} (h : k < 18) {e : En} (he : e = ent k) : writeT (nH k) e = (nd k).text ∧ writeR (rs.take k) (nH k) e = rs.take (k + 1) ∧ writeA (rs.take k) (nH k) e = (nH (k + 1), 0) ∧ writeM (rs.take k) (nH k) e = k := by
 have := write_new (tfk (k := k) (by omega)) (sign_k (by omega)) (val_k (by omega)) (writes_k h) he
 rw [rs_snoc (by omega), nH_snoc (by omega), ← mark_k (k := k) (by omega)]
 exact this
theorem write_y {e : En} (he : e = ent 18) : writeT (nH 17) e = (nd 18).text ∧ writeR (rs.take 18) (nH 17) e = rs ∧ writeA (rs.take 18) (nH 17) e = (nG, 0) ∧ writeM (rs.take 18) (nH 17) e = 18 := by
 have := write_new (tfk (k := 18) (by omega)) (sign_k (k := 18) (by omega)) (val_k (k := 18) (by omega)) writeY_ok he
 rw [← rs_snoc (by omega), mark_k (by omega)] at this
 exact this
theorem val_rs {n : Nd} (h : n ∈ nds) : validR rs n.key n.text n.mark = true := val_ok (k := 18) (n := n) (by omega) h
theorem nok_G : NOk nG := by
 refine nok_snoc (R := rs) (nok_nH 17 (by omega)) (tfk (k := 18) (by omega)) ?_
 exact add_new (val_rs (nd_mem (by omega))) (tfk (by omega)) (okAdd_of writeY_ok)
theorem nds_snoc : nds = nH 18 ++ [nd 18] := nH_snoc (k := 18) (by omega)
theorem addY : addB rs (nH 18) (nd 18).key (nd 18).text (nd 18).mark = (nds, 0) := by
 rw [nds_snoc]; exact add_new (val_rs (nd_mem (by omega))) (tfk (by omega)) addY_ok
theorem nok_A : NOk nds := by
 have := nok_snoc (R := rs) (nok_nH 18 (by omega)) (tfk (k := 18) (by omega)) (by rw [← nds_snoc]; exact addY)
 rw [← nds_snoc] at this; exact this
theorem join_eq : ∀ (L N : List Nd), (∀ n ∈ L, n ∈ nG) → (N = nH 18 ∨ N = nds) → (nd 18 ∈ L ∨ N = nds) → addAll rs N L = (nds, 0)
 | [], N, _, _, h2 => by
  rcases h2 with h2 | rfl
  ·cases h2
  ·rfl
 | n :: r, N, hL, h1, h2 => by
  have hr : ∀ n ∈ r, n ∈ nG := fun x hx => hL x (List.mem_cons_of_mem _ hx)
  unfold addAll
  by_cases hy : n = nd 18
  ·subst hy
   rcases h1 with rfl | rfl
   ·rw [addY]
    simp only [if_true]
    exact join_eq r nds hr (.inr rfl) (.inr rfl)
   ·rw [add_old (val_rs (nd_mem (by omega))) (tfk (by omega)) (List.all_eq_true.1 has_ok.2 _ (nd_mem (by omega)))]
    simp only [if_true]
    exact join_eq r nds hr (.inr rfl) (.inr rfl)
  ·have hn : n ∈ nds.take 17 := by
    rcases List.mem_append.1 (hL n (List.mem_cons_self ..)) with h | h
    ·exact h
    ·exact absurd (List.mem_singleton.1 h) hy
   have hn' : n ∈ nds := List.mem_of_mem_take hn
   have hN : (alook (hidx N) n.mark).isSome = true := by
    rcases h1 with rfl | rfl
    ·exact List.all_eq_true.1 has_ok.1 n hn
    ·exact List.all_eq_true.1 has_ok.2 n hn'
   rw [add_old (val_rs hn') (tf hn') hN]
   simp only [if_true]
   refine join_eq r N hr h1 (h2.imp (fun h => ?_) _root_.id)
   rcases List.mem_cons.1 h with h | h
   ·exact absurd h.symm hy
   ·exact h
theorem join_all {L : List Nd} (h : L.Perm nG) : addAll rs (nH 18) L = (nds, 0) :=
 join_eq L (nH 18) (fun n hn => h.mem_iff.1 hn) (.inl rfl) (.inl (h.mem_iff.2 (List.mem_append.2 (.inr (List.mem_singleton.2 rfl)))))
theorem restrict_take {R : List SK} {N : List Nd} {bits : List Nat} (hb : ∀ k < N.length, testB bits k = true) (ha : ∀ k (n : Nd), N[k]? = some n → addB R (N.take k) n.key n.text n.mark = (N.take (k + 1), 0)) : ∀ k, k ≤ N.length → restrictL R N bits k = N.take k
 | 0, _ => by simp [restrictL]
 | k + 1, h => by
  have ih := restrict_take hb ha k (by omega)
  obtain ⟨n, hn⟩ : ∃ n, N[k]? = some n := ⟨_, List.getElem?_eq_getElem (by omega)⟩
  unfold restrictL
  rw [if_pos (hb k (by omega)), ih, nodeAt_get hn, ha k n hn]
theorem copy_eq : restrictB (rs.take 17) (nH 17) (marksB (nH 17)) = nH 17 := by
 have hl : (nH 17).length = 17 := rfl
 unfold restrictB
 rw [marksF_eq, restrict_take (N := nH 17) (fun k hk => List.all_eq_true.1 down_ok17 k (List.mem_range.2 (by rw [hl] at hk; exact hk))) (fun k n hn => ?_) _ (Nat.le_refl _), List.take_length]
 have hk : k < 17 := by have := (List.getElem?_eq_some_iff.1 hn).1; rw [hl] at this; exact this
 have hn' : n = nd k := by
  unfold nH at hn
  rw [List.getElem?_take, if_pos hk, nd_get (by omega)] at hn
  exact (Option.some.inj hn).symm
 subst hn'
 have := add_k (R := rs.take 17) (k := k) (by omega) (val_ok (k := 16) (by omega) (take_mem (by omega) (by omega)))
 unfold nH at this ⊢
 rw [List.take_take, List.take_take, Nat.min_eq_left (by omega), Nat.min_eq_left (by omega)]
 exact this
theorem restrict_eq : restrictB rs nds [17, 18] = nds := by
 unfold restrictB
 rw [restrict_take (N := nds) (fun k hk => List.all_eq_true.1 down_ok19 k (List.mem_range.2 hk)) (fun k n hn => ?_) _ (Nat.le_refl _), List.take_length]
 have hk : k < 19 := (List.getElem?_eq_some_iff.1 hn).1
 have hn' : n = nd k := by rw [nd_get hk] at hn; exact (Option.some.inj hn).symm
 subst hn'
 rcases Nat.lt_or_ge k 18 with h | h
 ·exact add_k (R := rs) h (val_rs (nd_mem (by omega)))
 ·obtain rfl : k = 18 := by omega
  exact addY
theorem spendsA : spendsB nds = [17, 18] := by rw [spendsF_eq]; exact of_decide_eq_true spends_ok
theorem lacksA : lacksB nds = [⟨2, 4, 6⟩] := by rw [lacksF_eq]; exact of_decide_eq_true lacks_ok
theorem countA : count (lacksB nds) = 2 := by rw [lacksF_eq]; exact of_decide_eq_true count_ok
theorem spentA : spentB nds ⟨2, 4, 0⟩ = [17, 18] := by unfold spentB; rw [spendsA]; exact of_decide_eq_true with_ok
theorem firstA : firstB nds ⟨2, 4, 0⟩ = [17, 18] := by unfold firstB; rw [spentA]; exact of_decide_eq_true pair_ok.1
theorem forkA : forkB rs nds ⟨2, 4, 0⟩ = [17, 18] := by
 unfold forkB
 rw [firstA, restrict_eq, marksF_eq, show withB nds (marksF nds) ⟨2, 4, 0⟩ = [17, 18] from of_decide_eq_true withM_ok]
 exact of_decide_eq_true pair_ok.2
theorem explA : explB rs nds true ⟨2, 4, 0⟩ = [17, 18] := by
 unfold explB
 rw [firstA, forkA]; rfl
theorem smA : Sm nds := ⟨by show 19 ≤ 24; omega, fun n hn => of_decide_eq_true (List.all_eq_true.1 sm_ok n hn)⟩
theorem cutsA : ∀ mk ∈ marksB nds, ∀ x ∈ (entB nds mk).spans, ∀ a, a = x.f ∨ a = x.t → ¬ (x.m = 2 ∧ 4 < a ∧ a < 6) := by
 rw [marksF_eq]
 intro mk hm x hx a ha ⟨h1, h2, h3⟩
 have := List.all_eq_true.1 (List.all_eq_true.1 cuts_ok mk hm) x hx
 simp only [Bool.not_eq_true', Bool.and_eq_false_iff, Bool.or_eq_false_iff, decide_eq_false_iff_not] at this
 rcases this with h | ⟨h4, h5⟩
 ·exact h h1
 ·rcases ha with rfl | rfl
  ·rcases h4 with h4 | h4
   ·exact h4 h2
   ·exact h4 h3
  ·rcases h5 with h5 | h5
   ·exact h5 h2
   ·exact h5 h3
theorem askA : askB [[1, 2], [2, 3], [1, 2, 3]] [1, 3] = ([2], true) := of_decide_eq_true askS_ok
theorem entR {k : Nat} (h : k < 19) : EnR (ent k) := enOk_R (List.all_eq_true.1 ents_ok k (List.mem_range.2 h)) rfl rfl
end Go.Proofs.YtlobacpdhglnkaaGreatDoor
namespace Go.Proofs.YtlobacpdhglnkaaGreatDoor
open Go.Vc Rt Go.Bs
set_option maxHeartbeats 4000000
theorem nilI {S : List Nat} {w : World} : SlOf intT S w (.slice none 0 0) [] := SlOf.of_row (enc := fun n => [.i n]) (E := 3) (xs := []) nil_holds (fun b hb => by simp [blkOf] at hb) (by simp)
theorem nilSp {S : List Nat} {w : World} : SlOf spT S w (.slice none 0 0) [] := SlOf.of_row (enc := encS) (E := 50) (xs := []) nil_holds (fun b hb => by simp [blkOf] at hb) (by simp)
theorem ring_new (w : World) (hG : Gl w) : Calls Tryz.prog 19 #[] w (fun e w' => ∃ i : Nat × List Nat, e = .returned (ptr i.1) ∧ (ringO i.1 i.2 []).holds w' ∧ (∀ b ∈ i.2, w.heap.size ≤ b) ∧ Ext w w') :=
 (sealNew_c w).mono fun e w' ⟨b, m, he, hat, h1, h2, hx⟩ => by
  have hb : ∀ x ∈ partsR b (.slice none 0 0) m, w.heap.size ≤ x := by
   intro x hx
   simp [partsR, blkOf] at hx
   rcases hx with rfl | rfl
   ·exact h1
   ·exact h2
  exact ⟨(b, partsR b (.slice none 0 0) m), he, ringO_of hat fun x hx => Nat.le_trans hG.size (hb x hx), hb, hx⟩
theorem write_call {st : St} {d : Option Nat} {K : St → Prop} {ir ih h rb : Nat} {BR B : List Nat} {R R' : List SK} {N N' : List Nd} {M : Int} (e : En) {kv yv sv : Value} (hlr : Vc.look st.hp ir = some (ringO rb BR R)) (hlh : Vc.look st.hp ih = some (histO h rb B N)) (hne : ih ≠ ir)
  (hN : NOk N) (hRl : R.length ≤ 1000000) (hER : EnR e) (hq0 : 0 ≤ e.seq ∧ e.seq ≤ 1000000) (ht : (writeT N e).length ≤ 900000) (hR' : writeR R N e = R') (hN' : (writeA R N e).1 = N') (hM : writeM R N e = M)
  (hG : ∀ w, Holds st w → Gl w) (hin : ∀ w, Holds st w → EnIn (nub BR ++ nub B) w e kv yv sv)
  (hK : ∀ BR' B', hpSetK st.hp ir (ringO rb BR' R') (fun hp1 => hpSetK hp1 ih (histO h rb B' N') (fun hp => st.withHp hp (fun st' => goPut st' d (.i M) K)))) : UCall Tryz.prog st 20 [ptr h, vE e kv yv sv] d K := by
 subst hR' hN' hM
 refine two_callF (i1 := ir) (i2 := ih) b20 hlr hlh hne (fun r o1 o2 => r = .i (writeM R N e) ∧ (∃ BR', o1 = ringO rb BR' (writeR R N e)) ∧ ∃ B', o2 = histO h rb B' (writeA R N e).1) (fun w hw => ?_) ?_
 ·refine (write_c h rb B N hN R BR e kv yv sv w hRl (hG w hw) (hw.objs _ (look_mem hlh)) (hw.objs _ (look_mem hlr)) (fun b hb hm => hw.apart hlh hlr hne b (mem_nub.2 hb) (mem_nub.2 hm)) (hin w hw) hER hq0 ht).mono ?_
  rintro x w' ⟨BR', B', he, h1, h2, hf, h3, h4, h5⟩
  exact ⟨.i (writeM R N e), _, _, he, ⟨rfl, ⟨BR', rfl⟩, B', rfl⟩, h1, h2, hf, h3, h4, h5⟩
 ·rintro r o1 o2 ⟨rfl, ⟨BR', rfl⟩, B', rfl⟩
  exact ⟨⟨fun b T cells e => (by unfold ringO at e; cases e), fun b T cells e => (by unfold histO at e; cases e), trivial, trivial, trivial⟩, hK BR' B'⟩
theorem ent_seq (k : Nat) : (ent k).seq = 0 := rfl
theorem wr_call {st : St} {d : Option Nat} {K : St → Prop} {ir ih h rb : Nat} {BR B : List Nat} (k : Nat) (hk : k < 18) (e : En) (he : e = ent k) {kv yv sv : Value} (hlr : Vc.look st.hp ir = some (ringO rb BR (rs.take k))) (hlh : Vc.look st.hp ih = some (histO h rb B (nH k))) (hne : ih ≠ ir)
  (hG : ∀ w, Holds st w → Gl w) (hin : ∀ w, Holds st w → EnIn (nub BR ++ nub B) w e kv yv sv)
  (hK : ∀ BR' B', hpSetK st.hp ir (ringO rb BR' (rs.take (k + 1))) (fun hp1 => hpSetK hp1 ih (histO h rb B' (nH (k + 1))) (fun hp => st.withHp hp (fun st' => goPut st' d (.i (k : Int)) K)))) : UCall Tryz.prog st 20 [ptr h, vE e kv yv sv] d K := by
 obtain ⟨w1, w2, w3, w4⟩ := write_k hk he
 have hl := (tfk (k := k) (by omega)).len
 exact write_call e hlr hlh hne (nok_nH k (by omega)) (by rw [List.length_take, rs, List.length_map, nds_len]; omega) (by rw [he]; exact entR (by omega)) (by rw [he, ent_seq]; exact ⟨by decide, by decide⟩) (by rw [w1]; omega) w2 (by rw [w3]) w4 hG hin hK
theorem wrY_call {st : St} {d : Option Nat} {K : St → Prop} {ir ih h rb : Nat} {BR B : List Nat} (e : En) (he : e = ent 18) {kv yv sv : Value} (hlr : Vc.look st.hp ir = some (ringO rb BR (rs.take 18))) (hlh : Vc.look st.hp ih = some (histO h rb B (nH 17))) (hne : ih ≠ ir)
  (hG : ∀ w, Holds st w → Gl w) (hin : ∀ w, Holds st w → EnIn (nub BR ++ nub B) w e kv yv sv)
  (hK : ∀ BR' B', hpSetK st.hp ir (ringO rb BR' rs) (fun hp1 => hpSetK hp1 ih (histO h rb B' nG) (fun hp => st.withHp hp (fun st' => goPut st' d (.i 18) K)))) : UCall Tryz.prog st 20 [ptr h, vE e kv yv sv] d K := by
 obtain ⟨w1, w2, w3, w4⟩ := write_y he
 have hl := (tfk (k := 18) (by omega)).len
 exact write_call e hlr hlh hne (nok_nH 17 (by omega)) (by rw [List.length_take, rs, List.length_map, nds_len]; omega) (by rw [he]; exact entR (by omega)) (by rw [he, ent_seq]; exact ⟨by decide, by decide⟩) (by rw [w1]; omega) w2 (by rw [w3]) w4 hG hin hK
theorem ent_list {d : Nat} (h : d < 2) : (⟨(d : Int) + 1, 0, 0, [], 18, 0, 0, 0, d, -1, [], [], []⟩ : En) = ent (7 * d + 3) := by
 obtain rfl | rfl : d = 0 ∨ d = 1 := by omega
 ·rfl
 ·rfl
theorem ent_pre {d u : Nat} (h : d < 2) (h1 : 1 ≤ u) (h2 : u < 4) : (⟨(u : Int), 0, 0, [], 19, 0, 0, 0, d, ((7 * d + 3 : Nat) : Int), [], [], []⟩ : En) = ent (7 * d + 3 + u) := by
 obtain rfl | rfl : d = 0 ∨ d = 1 := by omega
 ·obtain rfl | rfl | rfl : u = 1 ∨ u = 2 ∨ u = 3 := by omega
  ·rfl
  ·rfl
  ·rfl
 ·obtain rfl | rfl | rfl : u = 1 ∨ u = 2 ∨ u = 3 := by omega
  ·rfl
  ·rfl
  ·rfl
theorem ent_lock {d u : Nat} (h : d < 2) (h1 : 1 ≤ u) (h2 : u < 4) : (⟨(u : Int), 0, 0, [], 20, 0, 0, 0, d, ((7 * d + 3 : Nat) : Int), [], [], []⟩ : En) = ent (7 * d + 6 + u) := by
 obtain rfl | rfl : d = 0 ∨ d = 1 := by omega
 ·obtain rfl | rfl | rfl : u = 1 ∨ u = 2 ∨ u = 3 := by omega
  ·rfl
  ·rfl
  ·rfl
 ·obtain rfl | rfl | rfl : u = 1 ∨ u = 2 ∨ u = 3 := by omega
  ·rfl
  ·rfl
  ·rfl
theorem lead_eq {d : Nat} (h : d < 2) : (if rightS [1, 2, 3] 0 0 && isDayB (d : Int) && isDayB 0 then ([1, 2, 3] : List Int).getD (((d : Int) + 0) % (([1, 2, 3] : List Int).length : Int)).toNat 0 else -1) = (d : Int) + 1 := by
 obtain rfl | rfl : d = 0 ∨ d = 1 := by omega
 ·rw [right_ok]; rfl
 ·rw [right_ok]; rfl
theorem small_c (w : World) (hG : Gl w) : Ans Tryz.prog 4 [] (.b true) w := by
 refine calls_plainB [] Tryz.func4 rfl rfl (Nat.le_of_ble_eq_true rfl) rfl fun B hB => ?_
 repeat refine zq ?_
 refine zr ?_; conv => whnf
 repeat refine zq ?_
 refine zr ?_; conv => whnf
 refine newAb_call (fun i : Nat × List Nat => .x (ptr i.1)) (fun i => i.2) (fun i => RingQ i.1 i.2 []) b19 (fun _ => rfl) (fun w' hw => ring_new w' (hG.ext hw.fr)) ?_
 rintro ⟨rb, BR0⟩
 conv => whnf
 refine newAb_call (fun i : Nat × List Nat => .x (ptr i.1)) (fun i => i.2) (fun i => HistQ i.1 rb i.2 []) b18 (fun _ => rfl) (fun w' hw => hnew8 rb w' (hG.ext hw.fr)) ?_
 rintro ⟨h, B0⟩
 conv => whnf
 repeat refine zq ?_
 refine zr ?_; conv => whnf
 repeat refine zq ?_
 refine At.cond (t := false) rfl (fun hq => by cases hq) (fun _ => At.skip ?_)
 repeat refine zq ?_
 refine zr ?_; conv => whnf
 intro vs; conv => whnf
 intro b2; conv => whnf
 repeat refine zq ?_
 refine zr ?_; conv => whnf
 intro vk; conv => whnf
 refine wr_call (ir := 0) (ih := 1) 0 (by omega) ⟨1, 0, 0, [], 0, 0, 0, 0, 0, -1, [1, 2, 3], [], foundT⟩ rfl rfl rfl (by decide) (fun w' hw => hG.ext hw.fr) (fun w' hw => ⟨nilI, SlOf.of_row (enc := encI) (xs := [1, 2, 3]) (hw.row (id := 4) rfl) (fun b hb hm => (List.mem_append.1 hm).elim (hw.apart (i := 4) (j := 0) rfl rfl (by decide) b hb) (hw.apart (i := 4) (j := 1) rfl rfl (by decide) b hb)) (by simp), nilSp⟩) ?_
 intro BR1 B1; conv => whnf
 repeat refine zq ?_
 refine zr ?_; conv => whnf
 refine wr_call (ir := 0) (ih := 1) 1 (by omega) ⟨2, 0, 0, [], 3, 0, 3, 10, 0, -1, [], [], []⟩ rfl rfl rfl (by decide) (fun w' hw => hG.ext hw.fr) (fun w' hw => ⟨nilI, nilI, nilSp⟩) ?_
 intro BR2 B2; conv => whnf
 repeat refine zq ?_
 refine zr ?_; conv => whnf
 refine wr_call (ir := 0) (ih := 1) 2 (by omega) ⟨3, 0, 0, [], 4, 0, 0, 10, 0, 1, [], [], []⟩ rfl rfl rfl (by decide) (fun w' hw => hG.ext hw.fr) (fun w' hw => ⟨nilI, nilI, nilSp⟩) ?_
 intro BR3 B3; conv => whnf
 repeat refine zq ?_
 refine zr ?_; conv => whnf
 repeat refine zq ?_
 refine At.block ?_
 refine At.loopH (fun p' : Nat × List Nat × List Nat => { N := Tryz.f4.ntmps, sl := [(1, some (.x ((ptr h)))), (2, some (.s (.c (.p 3 b2 0)))), (3, some (.i 0)), (5, some (.i 2)), (6, some (.i p'.1))], gl := [], hp := [(3, .box b2 24 [.o 2 vs, .i 0, .i 0]), (2, .row vs 3 1 ([1, 2, 3].map encI)), (1, histO h rb p'.2.2 (nH (7 * p'.1 + 3))), (0, ringO rb p'.2.1 (rs.take (7 * p'.1 + 3)))], S := [], ws := w }) (fun p' : Nat × List Nat × List Nat => p'.1 ≤ 2) (fun p' : Nat × List Nat × List Nat => 2 - p'.1)
  (fun w' hw => ⟨(0, BR3, B3), Nat.zero_le _, Le.of rfl rfl ⟨rfl, rfl, rfl, rfl, rfl, trivial⟩, hw.keep [3, 2, 1, 0] rfl rfl rfl, ⟨⟨_, _, rfl⟩, trivial⟩, ⟨fun c hc => by simp at hc; rcases hc with rfl | rfl | rfl <;> first | exact ⟨_, _, _, rfl⟩ | exact ⟨_, _, rfl⟩ | trivial, (nopI _).okH, trivial⟩⟩) ?_
 rintro ⟨d, BR, B⟩ hd
 simp only at hd ⊢
 repeat refine zq ?_
 refine zr ?_; conv => whnf
 repeat refine zq ?_
 refine At.cond rfl (fun hc => At.skip ?_) (fun hc => At.exit ?_)
 ·have hd2 : d < 2 := by have := of_decide_eq_true hc; omega
  repeat refine zq ?_
  refine At.block ?_
  repeat refine zq ?_
  refine zr ?_; conv => whnf
  refine ans_call (r := .i ((d : Int) + 1)) b21 rfl (fun w' hw => by
   have := leader_c [1, 2, 3] 0 0 d 0 [] vs w' (slI _ (hw.row (id := 2) rfl) (by simp)) (by simp)
   rw [lead_eq hd2] at this; exact this) ?_
  conv => whnf
  refine wr_call (ir := 0) (ih := 1) (7 * d + 3) (by omega) ⟨(d : Int) + 1, 0, 0, [], 18, 0, 0, 0, d, -1, [], [], []⟩ (ent_list hd2) rfl rfl (by decide) (fun w' hw => hG.ext hw.fr) (fun w' hw => ⟨nilI, nilI, nilSp⟩) ?_
  intro BR4 B4; conv => whnf
  repeat refine zq ?_
  refine zr ?_; conv => whnf
  repeat refine zq ?_
  refine At.block ?_
  refine At.loopH (fun p' : Nat × List Nat × List Nat => { N := Tryz.f4.ntmps, sl := [(1, some (.x ((ptr h)))), (2, some (.s (.c (.p 3 b2 0)))), (3, some (.i 0)), (5, some (.i 2)), (6, some (.i d)), (7, some (.i ((7 * d + 3 : Nat)))), (8, some (.i p'.1))], gl := [], hp := [(3, .box b2 24 [.o 2 vs, .i 0, .i 0]), (2, .row vs 3 1 ([1, 2, 3].map encI)), (1, histO h rb p'.2.2 (nH (7 * d + 3 + p'.1))), (0, ringO rb p'.2.1 (rs.take (7 * d + 3 + p'.1)))], S := [], ws := w }) (fun p' : Nat × List Nat × List Nat => 1 ≤ p'.1 ∧ p'.1 ≤ 4) (fun p' : Nat × List Nat × List Nat => 4 - p'.1)
   (fun w' hw => ⟨(1, BR4, B4), ⟨Nat.le_refl _, by simp only; omega⟩, Le.of rfl rfl ⟨rfl, rfl, rfl, rfl, rfl, rfl, rfl, trivial⟩, hw.keep [3, 2, 1, 0] rfl rfl rfl, ⟨⟨_, _, rfl⟩, trivial⟩, ⟨fun c hc => by simp at hc; rcases hc with rfl | rfl | rfl <;> first | exact ⟨_, _, _, rfl⟩ | exact ⟨_, _, rfl⟩ | trivial, (nopI _).okH, trivial⟩⟩) ?_
  rintro ⟨u, BR5, B5⟩ ⟨hu1, hu4⟩
  simp only at hu1 hu4 ⊢
  repeat refine zq ?_
  refine zr ?_; conv => whnf
  repeat refine zq ?_
  refine At.cond rfl (fun hc => At.skip ?_) (fun hc => At.exit ?_)
  ·have hu : u < 4 := by have := of_decide_eq_true hc; omega
   repeat refine zq ?_
   refine At.block ?_
   repeat refine zq ?_
   refine zr ?_; conv => whnf
   refine wr_call (ir := 0) (ih := 1) (7 * d + 3 + u) (by omega) ⟨(u : Int), 0, 0, [], 19, 0, 0, 0, d, ((7 * d + 3 : Nat) : Int), [], [], []⟩ (ent_pre hd2 hu1 hu) rfl rfl (by decide) (fun w' hw => hG.ext hw.fr) (fun w' hw => ⟨nilI, nilI, nilSp⟩) ?_
   intro BR6 B6; conv => whnf
   repeat refine zq ?_
   refine zr ?_; conv => whnf
   refine ⟨⟨by omega, by omega⟩, ?_⟩; conv => whnf
   refine At.nextH fun w' hw => ⟨(u + 1, BR6, B6), ⟨by simp only; omega, by simp only; omega⟩, by simp only; omega, Le.of rfl rfl ⟨rfl, rfl, rfl, rfl, rfl, rfl, rfl, trivial⟩, hw.keep [3, 2, 1, 0] rfl rfl rfl, ⟨⟨_, _, rfl⟩, trivial⟩, ⟨fun c hc => by simp at hc; rcases hc with rfl | rfl | rfl <;> first | exact ⟨_, _, _, rfl⟩ | exact ⟨_, _, rfl⟩ | trivial, (nopI _).okH, trivial⟩⟩
  ·have hge : u = 4 := by have := of_decide_eq_false hc; omega
   subst hge
   repeat refine zq ?_
   refine zr ?_; conv => whnf
   repeat refine zq ?_
   refine At.block ?_
   refine At.loopH (fun p' : Nat × List Nat × List Nat => { N := Tryz.f4.ntmps, sl := [(1, some (.x ((ptr h)))), (2, some (.s (.c (.p 3 b2 0)))), (3, some (.i 0)), (5, some (.i 2)), (6, some (.i d)), (7, some (.i ((7 * d + 3 : Nat)))), (9, some (.i p'.1))], gl := [], hp := [(3, .box b2 24 [.o 2 vs, .i 0, .i 0]), (2, .row vs 3 1 ([1, 2, 3].map encI)), (1, histO h rb p'.2.2 (nH (7 * d + 6 + p'.1))), (0, ringO rb p'.2.1 (rs.take (7 * d + 6 + p'.1)))], S := [], ws := w }) (fun p' : Nat × List Nat × List Nat => 1 ≤ p'.1 ∧ p'.1 ≤ 4) (fun p' : Nat × List Nat × List Nat => 4 - p'.1)
    (fun w' hw => ⟨(1, BR5, B5), ⟨Nat.le_refl _, by simp only; omega⟩, Le.of rfl rfl ⟨rfl, rfl, rfl, rfl, rfl, rfl, rfl, trivial⟩, hw.keep [3, 2, 1, 0] rfl rfl rfl, ⟨⟨_, _, rfl⟩, trivial⟩, ⟨fun c hc => by simp at hc; rcases hc with rfl | rfl | rfl <;> first | exact ⟨_, _, _, rfl⟩ | exact ⟨_, _, rfl⟩ | trivial, (nopI _).okH, trivial⟩⟩) ?_
   rintro ⟨v, BR7, B7⟩ ⟨hv1, hv4⟩
   simp only at hv1 hv4 ⊢
   repeat refine zq ?_
   refine zr ?_; conv => whnf
   repeat refine zq ?_
   refine At.cond rfl (fun hc => At.skip ?_) (fun hc => At.exit ?_)
   ·have hv : v < 4 := by have := of_decide_eq_true hc; omega
    repeat refine zq ?_
    refine At.block ?_
    repeat refine zq ?_
    refine zr ?_; conv => whnf
    refine wr_call (ir := 0) (ih := 1) (7 * d + 6 + v) (by omega) ⟨(v : Int), 0, 0, [], 20, 0, 0, 0, d, ((7 * d + 3 : Nat) : Int), [], [], []⟩ (ent_lock hd2 hv1 hv) rfl rfl (by decide) (fun w' hw => hG.ext hw.fr) (fun w' hw => ⟨nilI, nilI, nilSp⟩) ?_
    intro BR8 B8; conv => whnf
    repeat refine zq ?_
    refine zr ?_; conv => whnf
    refine ⟨⟨by omega, by omega⟩, ?_⟩; conv => whnf
    refine At.nextH fun w' hw => ⟨(v + 1, BR8, B8), ⟨by simp only; omega, by simp only; omega⟩, by simp only; omega, Le.of rfl rfl ⟨rfl, rfl, rfl, rfl, rfl, rfl, rfl, trivial⟩, hw.keep [3, 2, 1, 0] rfl rfl rfl, ⟨⟨_, _, rfl⟩, trivial⟩, ⟨fun c hc => by simp at hc; rcases hc with rfl | rfl | rfl <;> first | exact ⟨_, _, _, rfl⟩ | exact ⟨_, _, rfl⟩ | trivial, (nopI _).okH, trivial⟩⟩
   ·have hge : v = 4 := by have := of_decide_eq_false hc; omega
    subst hge
    repeat refine zq ?_
    refine zr ?_; conv => whnf
    refine ⟨⟨by omega, by omega⟩, ?_⟩; conv => whnf
    refine At.nextH fun w' hw => ⟨(d + 1, BR7, B7), by simp only; omega, by simp only; omega, Le.of rfl rfl ⟨rfl, rfl, rfl, rfl, rfl, trivial⟩, hw.keep [3, 2, 1, 0] rfl rfl rfl, ⟨⟨_, _, rfl⟩, trivial⟩, ⟨fun c hc => by simp at hc; rcases hc with rfl | rfl | rfl <;> first | exact ⟨_, _, _, rfl⟩ | exact ⟨_, _, rfl⟩ | trivial, (nopI _).okH, trivial⟩⟩
 ·have hge : d = 2 := by have := of_decide_eq_false hc; omega
  subst hge
  rw [show 7 * 2 + 3 = 17 from rfl]
  repeat refine zq ?_
  refine zr ?_; conv => whnf
  refine newAb_call (fun i : Nat × List Nat => .x (ptr i.1)) (fun i => i.2) (fun i => HistQ i.1 rb i.2 (nH 17)) b22 (fun _ => rfl) (fun w' hw => by
   have := copy_r h rb (nH 17) (nok_nH 17 (by omega)) (rs.take 17) w' (hG.ext hw.fr) (histO_hr (hw.objs _ (look_mem (s := 1) rfl)) (nok_nH 17 (by omega)) (fun b hb => by cases hb)) (ringO_rr (hw.objs _ (look_mem (s := 0) rfl)) (fun b hb => by cases hb))
   rw [copy_eq] at this; exact this) ?_
  rintro ⟨g, Bg⟩
  conv => whnf
  repeat refine zq ?_
  refine zr ?_; conv => whnf
  repeat refine zq ?_
  refine At.cond (t := false) rfl (fun hq => by cases hq) (fun _ => At.skip ?_)
  repeat refine zq ?_
  refine zr ?_; conv => whnf
  intro vx; conv => whnf
  refine wr_call (ir := 0) (ih := 1) 17 (by omega) ⟨3, 0, 0, [], 7, 0, 3, 0, 0, -1, [], [⟨2, 0, 6⟩], []⟩ rfl rfl rfl (by decide) (fun w' hw => hG.ext hw.fr) (fun w' hw => ⟨nilI, nilI, SlOf.of_row (enc := encS) (xs := [⟨2, 0, 6⟩]) (hw.row (id := 5) rfl) (fun b hb hm => (List.mem_append.1 hm).elim (hw.apart (i := 5) (j := 0) rfl rfl (by decide) b hb) (hw.apart (i := 5) (j := 1) rfl rfl (by decide) b hb)) (by simp)⟩) ?_
  intro BR9 B9; conv => whnf
  repeat refine zq ?_
  refine zr ?_; conv => whnf
  intro vy; conv => whnf
  refine wrY_call (ir := 0) (ih := 4) ⟨3, 0, 0, [], 7, 0, 3, 0, 0, -1, [], [⟨2, 4, 10⟩], []⟩ rfl rfl rfl (by decide) (fun w' hw => hG.ext hw.fr) (fun w' hw => ⟨nilI, nilI, SlOf.of_row (enc := encS) (xs := [⟨2, 4, 10⟩]) (hw.row (id := 6) rfl) (fun b hb hm => (List.mem_append.1 hm).elim (hw.apart (i := 6) (j := 0) rfl rfl (by decide) b hb) (hw.apart (i := 6) (j := 4) rfl rfl (by decide) b hb)) (by simp)⟩) ?_
  intro BRa Ba; conv => whnf
  repeat refine zq ?_
  refine At.regionG tab_ok ?_; conv => whnf
  refine obj_call (id := 1) (o := histO h rb B9 (nH 18)) b23 rfl (fun r o' => r = .i 0 ∧ ∃ B', o' = histO h rb B' nds) (fun w' hw => ?_) ?_
  ·refine (join_c h rb B9 (nH 18) (nok_nH 18 (by omega)) g rb nG nok_G rs w' (hG.ext hw.fr) (hw.objs _ (look_mem (s := 1) rfl)) (histO_hr (hw.objs _ (look_mem (s := 4) rfl)) nok_G (fun b hb hm => hw.apart (i := 1) (j := 4) rfl rfl (by decide) b hb (mem_nub.2 hm))) (ringO_rr (hw.objs _ (look_mem (s := 0) rfl)) (fun b hb hm => hw.apart (i := 1) (j := 0) rfl rfl (by decide) b (mem_nub.2 hb) (mem_nub.2 hm)))).mono ?_
   rintro e w'' ⟨L, B', he, hp, _, hh, hf, hn⟩
   rw [join_all hp] at he hh
   exact ⟨.i 0, histO h rb B' nds, he, ⟨rfl, B', rfl⟩, hh, hf, hn⟩
  rintro r o' ⟨rfl, Bj, rfl⟩
  refine ⟨⟨fun b T cells e => (by unfold histO at e; cases e), trivial, trivial⟩, ?_⟩; conv => whnf
  have hH : ∀ {st : St} {w' : World}, Holds st w' → Vc.look st.hp 1 = some (histO h rb Bj nds) → HR [] w' h rb nds := fun hw hl => histO_hr (hw.objs _ (look_mem hl)) nok_A (fun b hb => by cases hb)
  have hRR : ∀ {st : St} {w' : World}, Holds st w' → Vc.look st.hp 0 = some (ringO rb BRa rs) → RgR [] w' rb rs := fun hw hl => ringO_rr (hw.objs _ (look_mem hl)) (fun b hb => by cases hb)
  repeat refine zq ?_
  refine At.cond (t := false) rfl (fun hq => by cases hq) (fun _ => At.skip ?_)
  have hne : (firstB nds ⟨2, 4, 0⟩).length ≠ 0 → rightS [1, 2, 3] 0 0 = true → (forkB rs nds ⟨2, 4, 0⟩).length ≠ 0 := fun _ _ => by rw [forkA]; decide
  repeat refine zq ?_
  refine zr ?_; conv => whnf
  refine ansR_call b24 (rd1p (nopI _) rfl) (fun w' hw => blame_r h rb nds nok_A smA rs [1, 2, 3] 0 0 vs 2 4 6 1 17 18 w' (hG.ext hw.fr) (hH hw rfl) (hRR hw rfl) (slI _ (hw.row (id := 2) rfl) (by simp)) (by simp) lacksA ⟨⟨by decide, by decide⟩, by decide, by decide⟩ cutsA hne right_ok (by decide) (by rw [countA]; decide) (by decide) explA (by decide) ⟨by decide, by decide⟩ ⟨by decide, by decide⟩) ?_
  intro va; conv => whnf
  repeat refine zq ?_
  refine zr ?_; conv => whnf
  refine ansR_call b24 (rd1p (nopI []) rfl) (fun w' hw => blameNone_r h rb nds nok_A smA [1, 2, 3] 0 0 vs 2 w' (hH hw rfl) (slI _ (hw.row (id := 2) rfl) (by simp)) (by simp) right_ok (by decide) (by rw [countA]; decide)) ?_
  intro vn; conv => whnf
  repeat refine zq ?_
  refine zr ?_; conv => whnf
  intro v1; conv => whnf
  intro v2; conv => whnf
  intro v3; conv => whnf
  intro v4; conv => whnf
  intro v5; conv => whnf
  refine ansR_call b25 (rd1p (nopI _) rfl) (fun w' hw => by
   have := ask_c [[1, 2], [2, 3], [1, 2, 3]] [1, 3] v4 v5 w' (SlOf.of_rows (T := slT intT) (hw.row (id := 12) rfl) (fun b hb => nilS) (by simp) ⟨⟨[.x v1], rfl, v1, rfl, slI [1, 2] (hw.row (id := 9) rfl) (by simp)⟩, ⟨[.x v2], rfl, v2, rfl, slI [2, 3] (hw.row (id := 10) rfl) (by simp)⟩, ⟨[.x v3], rfl, v3, rfl, slI [1, 2, 3] (hw.row (id := 11) rfl) (by simp)⟩, trivial⟩) (slI [1, 3] (hw.row (id := 13) rfl) (by simp)) (by simp)
   rw [askA] at this; exact this) ?_
  intro vb; conv => whnf
  repeat refine zq ?_
  refine zr ?_; conv => whnf
  intro bz; conv => whnf
  repeat refine zq ?_
  refine At.regionG tab_ok ?_; conv => whnf
  refine ans_call (r := .i 2) b9 rfl (fun w' hw => by have := lack_r h rb nds nok_A smA w' (hH hw rfl); rw [countA] at this; exact this) ?_; conv => whnf
  refine ansR_call b7 (rd1 (nopS _)) (fun w' hw => by have := lacks_r h rb nds nok_A smA w' (hH hw rfl); rw [lacksA] at this; exact this) ?_
  intro vl; conv => whnf
  intro vm; conv => whnf
  refine ans_call (r := .b true) b17 rfl (fun w' hw => spansEq_r [⟨2, 4, 6⟩] [⟨2, 4, 6⟩] vl vm w' (slS _ (hw.row (id := 16) rfl) (by simp)) (slS _ (hw.row (id := 17) rfl) (by simp))) ?_; conv => whnf
  refine ansR_call b27 (rd1 (nopI _)) (fun w' hw => by have := spent_r h rb nds nok_A ⟨2, 4, 0⟩ w' (hH hw rfl); rw [spentA] at this; exact this) ?_
  intro vp; conv => whnf
  intro vq; conv => whnf
  refine ans_call (r := .b true) b26 rfl (fun w' hw => ints_r [17, 18] [17, 18] vp vq w' (slI _ (hw.row (id := 18) rfl) (by simp)) (slI _ (hw.row (id := 19) rfl) (by simp))) ?_; conv => whnf
  repeat refine zq ?_
  refine At.regionG tab_ok ?_; conv => whnf
  refine ansR_call b28 (rd1 (nopI _)) (fun w' hw => by have := explain_r h rb nds nok_A rs [1, 2, 3] 0 0 vs ⟨2, 4, 0⟩ w' (hG.ext hw.fr) (hH hw rfl) (hRR hw rfl) (slI _ (hw.row (id := 2) rfl) (by simp)) (by simp) hne; rw [right_ok, explA] at this; exact this) ?_
  intro ve; conv => whnf
  intro vf; conv => whnf
  refine ans_call (r := .b true) b26 rfl (fun w' hw => ints_r [17, 18] [17, 18] ve vf w' (slI _ (hw.row (id := 20) rfl) (by simp)) (slI _ (hw.row (id := 21) rfl) (by simp))) ?_; conv => whnf
  intro vg; conv => whnf
  refine ans_call (r := .b true) b26 rfl (fun w' hw => ints_r [17, 18] [17, 18] va vg w' (slI _ (hw.row (id := 7) rfl) (by simp)) (slI _ (hw.row (id := 22) rfl) (by simp))) ?_; conv => whnf
  intro vh; conv => whnf
  refine ans_call (r := .b true) b26 rfl (fun w' hw => ints_r [2] [2] vb vh w' (slI _ (hw.row (id := 14) rfl) (by simp)) (slI _ (hw.row (id := 23) rfl) (by simp))) ?_; conv => whnf
  repeat refine zq ?_
  refine At.ret (At.doneB tab_ok hB _ rfl fun w' hw => ⟨rfl, hw.fr⟩)
end Go.Proofs.YtlobacpdhglnkaaGreatDoor
namespace Go.Proofs.YtlobacpdhglnkaaGreatDoor
open Go.Vc Rt Go.Bs
theorem has_flat {α : Type} {f : α → List Span} {l : List α} {m n : Int} : Has (l.flatMap f) m n ↔ ∃ x ∈ l, Has (f x) m n := by
 unfold Has
 constructor
 ·rintro ⟨s, hs, h⟩
  obtain ⟨x, hx, hsx⟩ := List.mem_flatMap.1 hs
  exact ⟨x, hx, s, hsx, h⟩
 ·rintro ⟨x, hx, s, hs, h⟩
  exact ⟨s, List.mem_flatMap.2 ⟨x, hx, hs⟩, h⟩
theorem has_norm_valid {l : List Span} (hv : ∀ s ∈ l, valid s = true) {m n : Int} : Has (norm l) m n ↔ Has l m n := by
 rw [has_norm]
 constructor
 ·rintro ⟨s, hs, _, h⟩; exact ⟨s, hs, h⟩
 ·rintro ⟨s, hs, h⟩; exact ⟨s, hs, hv s hs, h⟩
theorem common_valid {a b : List Span} : ∀ s ∈ common a b, valid s = true := fun s hs => norm_valid s hs
theorem has_common_comm {a b : List Span} {m n : Int} : Has (common a b) m n ↔ Has (common b a) m n := by rw [has_common, has_common, and_comm]
theorem apartB_comm (N : List Nd) (a b : Int) : apartB N a b = apartB N b a := by
 unfold apartB
 rw [Bool.and_assoc, Bool.and_assoc, Bool.and_comm (!beforeB N a b)]
 congr 1
 by_cases h : a = b
 ·subst h; rfl
 ·simp [h, Ne.symm h]
def Lk (N : List Nd) (m n : Int) : Prop := ∃ a b, a ∈ spendsB N ∧ b ∈ spendsB N ∧ apartB N a b = true ∧ Has (common (entB N a).spans (entB N b).spans) m n
theorem lackRow_has {N : List Nd} {a : Int} {pre : List Int} {m n : Int} : Has (lackRow N a pre) m n ↔ ∃ b ∈ pre, apartB N a b = true ∧ Has (common (entB N a).spans (entB N b).spans) m n := by
 unfold lackRow
 rw [has_flat]
 constructor
 ·rintro ⟨b, hb, h⟩
  split at h
  ·rename_i hc; exact ⟨b, hb, hc, h⟩
  ·exact absurd h Has.nil
 ·rintro ⟨b, hb, hc, h⟩
  exact ⟨b, hb, by rw [if_pos hc]; exact h⟩
theorem lackTo_valid {N : List Nd} {l : List Int} {k : Nat} : ∀ s ∈ lackTo N l k, valid s = true := by
 intro s hs
 unfold lackTo lackRow at hs
 obtain ⟨i, _, hs⟩ := List.mem_flatMap.1 hs
 obtain ⟨b, _, hs⟩ := List.mem_flatMap.1 hs
 split at hs
 ·exact common_valid s hs
 ·cases hs
theorem getD_mem' {l : List Int} {i : Nat} (h : i < l.length) : l.getD i 0 ∈ l := by
 rw [List.getD_eq_getElem?_getD, List.getElem?_eq_getElem h]; exact List.getElem_mem h
theorem two_places {l : List Int} {a b : Int} (ha : a ∈ l) (hb : b ∈ l) (hne : a ≠ b) : (∃ i, i < l.length ∧ l.getD i 0 = a ∧ b ∈ l.take i) ∨ ∃ i, i < l.length ∧ l.getD i 0 = b ∧ a ∈ l.take i := by
 obtain ⟨i, hi, rfl⟩ := List.getElem_of_mem ha
 obtain ⟨j, hj, rfl⟩ := List.getElem_of_mem hb
 have g : ∀ k (h : k < l.length), l.getD k 0 = l[k] := fun k h => by rw [List.getD_eq_getElem?_getD, List.getElem?_eq_getElem h]; rfl
 have tk : ∀ p q (hp : p < l.length) (hq : q < l.length), p < q → l[p] ∈ l.take q := fun p q hp hq h => by
  refine List.mem_of_getElem? (i := p) ?_
  rw [List.getElem?_take_of_lt h, List.getElem?_eq_getElem hp]
 rcases Nat.lt_trichotomy i j with h | h | h
 ·exact .inr ⟨j, hj, g j hj, tk i j hi hj h⟩
 ·subst h; exact absurd rfl hne
 ·exact .inl ⟨i, hi, g i hi, tk j i hj hi h⟩
theorem has_lacks {N : List Nd} {m n : Int} : Has (lacksB N) m n ↔ Lk N m n := by
 unfold lacksB
 rw [has_norm_valid lackTo_valid]
 unfold lackTo
 rw [has_flat]
 constructor
 ·rintro ⟨i, hi, h⟩
  obtain ⟨b, hb, hc, h⟩ := lackRow_has.1 h
  exact ⟨_, b, getD_mem' (List.mem_range.1 hi), List.mem_of_mem_take hb, hc, h⟩
 ·rintro ⟨a, b, ha, hb, hc, h⟩
  have hne : a ≠ b := by
   rintro rfl
   unfold apartB at hc; simp at hc
  rcases two_places ha hb hne with ⟨i, hi, e, hm⟩ | ⟨i, hi, e, hm⟩
  ·exact ⟨i, List.mem_range.2 hi, lackRow_has.2 ⟨b, hm, by rw [e]; exact hc, by rw [e]; exact h⟩⟩
  ·exact ⟨i, List.mem_range.2 hi, lackRow_has.2 ⟨a, hm, by rw [e, apartB_comm]; exact hc, by rw [e]; exact has_common_comm.1 h⟩⟩
theorem hidx_append (N M : List Nd) : ∃ X, hidx (N ++ M) = hidx N ++ X := by
 unfold hidx
 rw [List.zipIdx_append, List.map_append]
 exact ⟨_, rfl⟩
theorem alook_append {K V : Type} [DecidableEq K] {L X : List (K × V)} {k : K} {v : V} (h : alook L k = some v) : alook (L ++ X) k = some v := by
 unfold alook at h ⊢
 rw [List.find?_append]
 cases hf : List.find? (fun p => decide (p.1 = k)) L with
 | none => rw [hf] at h; cases h
 | some q => rw [hf] at h; exact h
theorem pre_look {N M : List Nd} {a i : Int} (h : alook (hidx N) a = some i) : alook (hidx (N ++ M)) a = some i := by
 obtain ⟨X, e⟩ := hidx_append N M
 rw [e]; exact alook_append h
theorem pre_node {N M : List Nd} {a i : Int} (h : alook (hidx N) a = some i) : nodeAt (N ++ M) i = nodeAt N i := by
 obtain ⟨j, n, rfl, hj, _, hn⟩ := hidx_spec h
 rw [hn]
 unfold nodeAt
 rw [Int.toNat_natCast, List.getD_eq_getElem?_getD, List.getElem?_append_left (List.getElem?_eq_some_iff.1 hj).1, hj]; rfl
theorem pre_ent {N M : List Nd} {a i : Int} (h : alook (hidx N) a = some i) : entB (N ++ M) a = entB N a := by
 unfold entB
 rw [h, pre_look h]
 exact congrArg Nd.e (pre_node h)
theorem pre_before {N M : List Nd} {a b i j : Int} (ha : alook (hidx N) a = some i) (hb : alook (hidx N) b = some j) : beforeB (N ++ M) a b = beforeB N a b := by
 unfold beforeB
 rw [ha, hb, pre_look ha, pre_look hb]
 simp only
 rw [pre_node hb]
theorem alook_mem {K V : Type} [DecidableEq K] {L : List (K × V)} {p : K × V} (h : p ∈ L) : ∃ v, alook L p.1 = some v := by
 refine Option.isSome_iff_exists.1 ?_
 unfold alook
 rw [Option.isSome_map, List.find?_isSome]
 exact ⟨p, h, by simp⟩
theorem mark_look {N : List Nd} {a : Int} (h : a ∈ marksB N) : ∃ i, alook (hidx N) a = some i := by
 obtain ⟨n, hn, rfl⟩ : ∃ n ∈ N, n.mark = a := by unfold marksB at h; rw [sortI_mem] at h; exact List.mem_map.1 h
 obtain ⟨i, hi, rfl⟩ := List.getElem_of_mem hn
 exact alook_mem (p := (N[i].mark, (i : Int))) (List.mem_map.2 ⟨(N[i], i), List.mk_mem_zipIdx_iff_getElem?.2 (List.getElem?_eq_getElem hi), rfl⟩)
theorem mem_marks {N : List Nd} {a : Int} : a ∈ marksB N ↔ ∃ n ∈ N, n.mark = a := by
 unfold marksB; rw [sortI_mem]; exact List.mem_map
theorem mem_spends {N : List Nd} {a : Int} : a ∈ spendsB N ↔ a ∈ marksB N ∧ (entB N a).kind = 7 := by
 unfold spendsB; rw [List.mem_filter]; simp
theorem pre_spends {N M : List Nd} {a : Int} (h : a ∈ spendsB N) : a ∈ spendsB (N ++ M) := by
 obtain ⟨h1, h2⟩ := mem_spends.1 h
 obtain ⟨i, hi⟩ := mark_look h1
 refine mem_spends.2 ⟨?_, by rw [pre_ent hi]; exact h2⟩
 obtain ⟨n, hn, e⟩ := mem_marks.1 h1
 exact mem_marks.2 ⟨n, List.mem_append_left _ hn, e⟩
theorem lacks_mono {N M : List Nd} {m n : Int} (h : Has (lacksB N) m n) : Has (lacksB (N ++ M)) m n := by
 obtain ⟨a, b, ha, hb, hc, hh⟩ := has_lacks.1 h
 obtain ⟨i, hi⟩ := mark_look (mem_spends.1 ha).1
 obtain ⟨j, hj⟩ := mark_look (mem_spends.1 hb).1
 refine has_lacks.2 ⟨a, b, pre_spends ha, pre_spends hb, ?_, by rw [pre_ent hi, pre_ent hj]; exact hh⟩
 unfold apartB at hc ⊢
 rw [pre_before hi hj, pre_before hj hi]; exact hc
theorem lacks_valid {N : List Nd} : ∀ s ∈ lacksB N, valid s = true := fun s hs => norm_valid s hs
theorem minus_lacks (N M : List Nd) : (minus (lacksB N) (lacksB (N ++ M))).length = 0 :=
 (minus_empty _ _).2 fun m n h => (has_norm_valid lacks_valid).2 (lacks_mono ((has_norm_valid lacks_valid).1 h))
theorem normal_of_nf {l : List Span} (h : NF l) (hv : ∀ s ∈ l, valid s = true) : normal l = true := by
 refine normal_true fun j hj => ?_
 unfold okAt
 rw [List.getElem?_eq_getElem hj]
 simp only
 rw [hv _ (List.getElem_mem hj), Bool.true_and]
 by_cases h0 : j = 0
 ·subst h0; rfl
 ·have hj' : j - 1 < l.length := by omega
  rw [List.getElem?_eq_getElem hj']
  simp only
  have hg := (List.pairwise_iff_getElem.1 h.ord) (j - 1) j hj' hj (by omega)
  have hne := h.ne _ (List.getElem_mem hj')
  unfold gap at hg
  rw [Bool.or_eq_true]; right
  simp only [Bool.not_eq_true', Bool.or_eq_false_iff, Bool.and_eq_false_iff, decide_eq_false_iff_not]
  omega
theorem normal_lacks (N : List Nd) : normal (lacksB N) = true := normal_of_nf (norm_nf _) lacks_valid
def unionS' (a b : List Span) : List Span := norm (a ++ b)
def pairC (N : List Nd) (a b : Int) : Bool := (decide ((entB N a).kind = 7) && decide ((entB N b).kind = 7)) && apartB N a b
def allRow (N : List Nd) (a : Int) (pre : List Int) (all : List Span) : List Span := pre.foldl (fun all b => if pairC N a b then unionS' all (common (entB N a).spans (entB N b).spans) else all) all
def allTo (N : List Nd) (l : List Int) : Nat → List Span
 | 0 => []
 | k + 1 => allRow N (l.getD k 0) (l.take k) (allTo N l k)
structure Nm (l : List Span) : Prop where
 nf : NF l
 ok : ∀ s ∈ l, valid s = true
theorem nm_norm (l : List Span) : Nm (norm l) := ⟨norm_nf l, fun s hs => norm_valid s hs⟩
theorem allRow_spec {N : List Nd} {a : Int} : ∀ (pre : List Int) {all : List Span}, Nm all → Nm (allRow N a pre all) ∧ ∀ m n, Has (allRow N a pre all) m n ↔ Has all m n ∨ ∃ b ∈ pre, pairC N a b = true ∧ Has (common (entB N a).spans (entB N b).spans) m n
 | [], all, h => ⟨h, fun m n => by simp [allRow]⟩
 | b :: r, all, h => by
  have e : allRow N a (b :: r) all = allRow N a r (if pairC N a b then unionS' all (common (entB N a).spans (entB N b).spans) else all) := rfl
  rw [e]
  by_cases hc : pairC N a b = true
  ·rw [if_pos hc]
   obtain ⟨h1, h2⟩ := allRow_spec (N := N) (a := a) r (nm_norm (all ++ common (entB N a).spans (entB N b).spans))
   refine ⟨h1, fun m n => ?_⟩
   rw [show unionS' all (common (entB N a).spans (entB N b).spans) = norm (all ++ common (entB N a).spans (entB N b).spans) from rfl, h2, has_norm_valid (fun s hs => (List.mem_append.1 hs).elim (h.ok s) (common_valid s)), Has.append]
   simp [hc, or_assoc]
  ·rw [if_neg hc]
   obtain ⟨h1, h2⟩ := allRow_spec (N := N) (a := a) r h
   refine ⟨h1, fun m n => ?_⟩
   rw [h2]
   simp [hc]
theorem allTo_spec {N : List Nd} {l : List Int} : ∀ k, Nm (allTo N l k) ∧ ∀ m n, Has (allTo N l k) m n ↔ ∃ i, i < k ∧ ∃ b ∈ l.take i, pairC N (l.getD i 0) b = true ∧ Has (common (entB N (l.getD i 0)).spans (entB N b).spans) m n
 | 0 => ⟨⟨⟨by simp [allTo], by simp [allTo]⟩, by simp [allTo]⟩, fun m n => by simp [allTo, Has]⟩
 | k + 1 => by
  obtain ⟨h1, h2⟩ := allTo_spec (N := N) (l := l) k
  obtain ⟨h3, h4⟩ := allRow_spec (N := N) (a := l.getD k 0) (l.take k) h1
  refine ⟨h3, fun m n => ?_⟩
  show Has (allRow N (l.getD k 0) (l.take k) (allTo N l k)) m n ↔ _
  rw [h4, h2]
  constructor
  ·rintro (⟨i, hi, h⟩ | h)
   ·exact ⟨i, by omega, h⟩
   ·exact ⟨k, by omega, h⟩
  ·rintro ⟨i, hi, h⟩
   by_cases e : i = k
   ·subst e; exact .inr h
   ·exact .inl ⟨i, by omega, h⟩
theorem all_eq (N : List Nd) : allTo N (marksB N) (marksB N).length = lacksB N := by
 obtain ⟨h1, h2⟩ := allTo_spec (N := N) (l := marksB N) (marksB N).length
 refine NF.ext h1.nf (norm_nf _) fun m n => ?_
 rw [h2, has_lacks]
 constructor
 ·rintro ⟨i, hi, b, hb, hc, h⟩
  unfold pairC at hc
  simp only [Bool.and_eq_true, decide_eq_true_eq] at hc
  exact ⟨_, b, mem_spends.2 ⟨getD_mem' hi, hc.1.1⟩, mem_spends.2 ⟨List.mem_of_mem_take hb, hc.1.2⟩, hc.2, h⟩
 ·rintro ⟨a, b, ha, hb, hc, h⟩
  have hne : a ≠ b := by
   rintro rfl
   unfold apartB at hc; simp at hc
  obtain ⟨ha1, ha2⟩ := mem_spends.1 ha
  obtain ⟨hb1, hb2⟩ := mem_spends.1 hb
  rcases two_places ha1 hb1 hne with ⟨i, hi, e, hm⟩ | ⟨i, hi, e, hm⟩
  ·exact ⟨i, hi, b, hm, by rw [e]; unfold pairC; simp [ha2, hb2, hc], by rw [e]; exact h⟩
  ·exact ⟨i, hi, a, hm, by rw [e]; unfold pairC; simp [ha2, hb2, apartB_comm N b a, hc], by rw [e]; exact has_common_comm.1 h⟩
theorem allRow_len {N : List Nd} (hS : Sm N) (a : Int) : ∀ (pre : List Int) (all : List Span), (allRow N a pre all).length ≤ all.length + 1600 * pre.length
 | [], all => by simp [allRow]
 | b :: r, all => by
  have e : allRow N a (b :: r) all = allRow N a r (if pairC N a b then unionS' all (common (entB N a).spans (entB N b).spans) else all) := rfl
  rw [e]
  have h1 := allRow_len hS a r (if pairC N a b then unionS' all (common (entB N a).spans (entB N b).spans) else all)
  have h2 : (if pairC N a b then unionS' all (common (entB N a).spans (entB N b).spans) else all).length ≤ all.length + 1600 := by
   split
   ·have h3 := norm_len (all ++ common (entB N a).spans (entB N b).spans)
    have h4 := common_len (ent_sp hS a) (ent_sp hS b)
    unfold unionS'
    rw [List.length_append] at h3
    omega
   ·omega
  rw [List.length_cons, Nat.mul_add]; omega
theorem allTo_len {N : List Nd} (hS : Sm N) (l : List Int) : ∀ k, k ≤ 24 → (allTo N l k).length ≤ 1600 * (k * 24)
 | 0, _ => by simp [allTo]
 | k + 1, hk => by
  have ih := allTo_len hS l k (by omega)
  have h2 := allRow_len hS (l.getD k 0) (l.take k) (allTo N l k)
  have h3 : (l.take k).length ≤ k := by rw [List.length_take]; omega
  show (allRow N (l.getD k 0) (l.take k) (allTo N l k)).length ≤ _
  omega
end Go.Proofs.YtlobacpdhglnkaaGreatDoor
