/- Texts that the law leans on. -/
import Derived.Test.YtdigebokbhmfaaaGreatDoorU26
import Derived.Test.YtdigebokbhmfaaaGreatDoorU24
set_option linter.unusedVariables false
set_option linter.unusedSimpArgs false
namespace Go.Proofs.YtdigebokbhmfaaaGreatDoor.Ap
open Go.Vc Rt Go.Bs
set_option maxHeartbeats 1000000
def forkB (N : List Nd) (a b : Int) : Bool := (!decide (a = b) && !beforeB N a b) && !beforeB N b a
theorem fork_r (h rb : Nat) (N : List Nd) (hN : NOk N) (a b : Int) (w : World) (H : HR [] w h rb N) : Ans Tryz.prog 128 [ptr h, vI a, vI b] (.b (forkB N a b)) w := by
 refine calls_e [.x (ptr h), .i a, .i b] Tryz.func128 rfl rfl (Nat.le_of_ble_eq_true rfl) trivial fun B hB => ?_
 repeat refine zq ?_
 refine zr ?_; conv => whnf
 repeat refine zq ?_
 refine zr ?_; conv => whnf
 refine ⟨.b (beforeB N a b), gimp_of (ans_quiet b14 (fun w' hw => before_r h rb N hN a b w' (H.ext hw.fr))), ?_⟩; conv => whnf
 refine ⟨.b (beforeB N b a), gimp_of (ans_quiet b14 (fun w' hw => before_r h rb N hN b a w' (H.ext hw.fr))), ?_⟩; conv => whnf
 repeat refine zq ?_
 refine At.ret (At.doneB tab_ok hB _ rfl fun w' hw => ⟨?_, hw.fr⟩)
 simp only [RV.den, SV.den, CV.den, band, forkB, decide_not]
theorem build108 {dst : Option Nat} {ty : TypeId} {pos : String} {after : Array Edge} {guard : Option (Nat × Bool)} (ρ : Operand → Value) (w : World) : (execOp ρ { dst := dst, op := .build 108 #[], type := ty, pos := pos, after := after, guard := guard }).run Tryz.prog w = .ok (.value (RV.s (.agg [.i 0, .i 0])).den) w := by kernel_rfl
theorem pair_none (h rb : Nat) (N : List Nd) (hN : NOk N) (l : List Int) (hf : ∀ a ∈ l, ∀ b ∈ l, forkB N a b = false) (v : Value) (w : World) (H : HR [] w h rb N) (hl : SlOf intT [] w v l) :
  Ans Tryz.prog 77 [ptr h, v] (.tup [.agg [.i 0, .i 0], .c (.b false)]) w := by
 have hln := hl.len
 have hsm := hl.small
 refine calls_e [.x (ptr h), .x v] Tryz.func77 rfl rfl (Nat.le_of_ble_eq_true rfl) trivial fun B hB => ?_
 repeat refine zq ?_
 refine zr ?_; conv => whnf
 intro b4; conv => whnf
 repeat refine zq ?_
 refine zr ?_; conv => whnf
 refine ⟨hl.sl, ?_⟩; conv => whnf
 repeat refine zq ?_
 refine At.block ?_
 refine At.loopH (fun k : Nat => { N := Tryz.f77.ntmps, sl := [(0, some (.x ((ptr h)))), (1, some (.x v)), (4, some (.s (.c (.p 0 b4 0)))), (5, some (.b false)), (10, some (.x v)), (11, some (.i l.length)), (12, some (.i k))], gl := [], hp := [(0, .box b4 108 [.i 0, .i 0])], S := [], ws := w }) (fun k : Nat => k ≤ l.length) (fun k : Nat => l.length - k)
  (fun w' hw => ⟨0, Nat.zero_le _, Le.of rfl rfl ⟨rfl, rfl, rfl, rfl, rfl, congrArg (Value.int .i64) hln, rfl, trivial⟩, hw.keep [0] rfl rfl rfl, ⟨⟨_, _, rfl⟩, trivial⟩, trivial⟩) ?_
 intro k hk
 repeat refine zq ?_
 refine zr ?_; conv => whnf
 repeat refine zq ?_
 refine At.cond rfl (fun hc => At.skip ?_) (fun hc => At.exit ?_)
 ·have hlt : k < l.length := by have := of_decide_eq_true hc; omega
  obtain ⟨x, hx⟩ : ∃ x, l[k]? = some x := ⟨_, List.getElem?_eq_getElem hlt⟩
  have hlt : k < l.length := by have := of_decide_eq_true hc; omega
  repeat refine zq ?_
  refine At.block ?_
  repeat refine zq ?_
  refine zr ?_; conv => whnf
  refine ⟨by omega, ?_⟩; conv => whnf
  refine ⟨by omega, ?_⟩; conv => whnf
  refine ⟨[.i x], fun w' hw => hl.load (n := 1) hw.fr hx rfl, ?_⟩; conv => whnf
  repeat refine zq ?_
  refine zr ?_; conv => whnf
  refine ⟨hl.sl, ?_⟩; conv => whnf
  repeat refine zq ?_
  refine At.block ?_
  refine At.loopH (fun j : Nat => { N := Tryz.f77.ntmps, sl := [(0, some (.x ((ptr h)))), (1, some (.x v)), (4, some (.s (.c (.p 0 b4 0)))), (5, some (.b false)), (7, some (.i x)), (10, some (.x v)), (11, some (.i l.length)), (12, some (.i k)), (16, some (.x v)), (17, some (.i l.length)), (18, some (.i j))], gl := [], hp := [(0, .box b4 108 [.i 0, .i 0])], S := [], ws := w }) (fun j : Nat => j ≤ l.length) (fun j : Nat => l.length - j)
   (fun w' hw => ⟨0, Nat.zero_le _, Le.of rfl rfl ⟨rfl, rfl, rfl, rfl, rfl, rfl, rfl, rfl, rfl, congrArg (Value.int .i64) hln, rfl, trivial⟩, hw.keep [0] rfl rfl rfl, ⟨⟨_, _, rfl⟩, trivial⟩, trivial⟩) ?_
  intro j hj
  repeat refine zq ?_
  refine zr ?_; conv => whnf
  repeat refine zq ?_
  refine At.cond rfl (fun hc => At.skip ?_) (fun hc => At.exit ?_)
  ·have hlty : j < l.length := by have := of_decide_eq_true hc; omega
   obtain ⟨y, hy⟩ : ∃ x, l[j]? = some x := ⟨_, List.getElem?_eq_getElem hlty⟩
   have hltj : j < l.length := by have := of_decide_eq_true hc; omega
   have hno := hf x (List.mem_of_getElem? hx) y (List.mem_of_getElem? hy)
   repeat refine zq ?_
   refine At.block ?_
   repeat refine zq ?_
   refine zr ?_; conv => whnf
   refine ⟨by omega, ?_⟩; conv => whnf
   refine ⟨by omega, ?_⟩; conv => whnf
   refine ⟨[.i y], fun w' hw => hl.load (n := 1) hw.fr hy rfl, ?_⟩; conv => whnf
   repeat refine zq ?_
   refine zr ?_; conv => whnf
   refine ans_call b128 rfl (fun w' hw => fork_r h rb N hN x y w' (H.ext hw.fr)) ?_; conv => whnf
   rw [hno]
   repeat refine zq ?_
   refine At.cond (t := false) rfl (fun hq => by cases hq) (fun _ => At.skip ?_)
   repeat refine zq ?_
   refine zr ?_; conv => whnf
   refine ⟨⟨by omega, by omega⟩, ?_⟩; conv => whnf
   refine At.nextH fun w' hw => ⟨j + 1, by omega, by omega, Le.of rfl rfl ⟨rfl, rfl, rfl, rfl, rfl, rfl, rfl, rfl, rfl, rfl, rfl, trivial⟩, hw.keep [0] rfl rfl rfl, ⟨⟨_, _, rfl⟩, trivial⟩, trivial⟩
  ·have hge : j = l.length := by have := of_decide_eq_false hc; omega
   subst hge
   repeat refine zq ?_
   refine zr ?_; conv => whnf
   refine ⟨⟨by omega, by omega⟩, ?_⟩; conv => whnf
   refine At.nextH fun w' hw => ⟨k + 1, by omega, by omega, Le.of rfl rfl ⟨rfl, rfl, rfl, rfl, rfl, rfl, rfl, trivial⟩, hw.keep [0] rfl rfl rfl, ⟨⟨_, _, rfl⟩, trivial⟩, trivial⟩
 ·have hge : k = l.length := by have := of_decide_eq_false hc; omega
  subst hge
  repeat refine zq ?_
  refine zr ?_; conv => whnf
  refine ⟨.s (.agg [.i 0, .i 0]), gq fun ρ hρ w' hw => build108 ρ w', ?_⟩; conv => whnf
  repeat refine zq ?_
  refine At.ret (At.doneB tab_ok hB _ rfl fun w' hw => ⟨rfl, hw.fr⟩)
def NoFork (N : List Nd) : Prop := ∀ a ∈ marksB N, ∀ b ∈ marksB N, (entB N a).author = (entB N b).author → forkB N a b = false
theorem sorted_mem {N : List Nd} {x : Int} : x ∈ sortedB N ↔ x ∈ marksB N := by
 unfold sortedB
 rw [(marks_perm N).mem_iff]
 exact ((canB_perm N).map Nd.mark).mem_iff
theorem ent_ok {N : List Nd} (hN : NOk N) {x : Int} (h : x ∈ marksB N) (hn : (N.map Nd.mark).Nodup) : EnR (entB N x) := by
 obtain ⟨n, hm, rfl⟩ := marksB_mem h
 obtain ⟨i, hi⟩ := List.getElem?_of_mem hm
 unfold entB
 rw [alook_mark hn hi]
 show EnR (nodeAt N (i : Int)).e
 rw [nodeAt_get hi]
 exact (hN.nd i n hi).2.2.2.2.1
theorem forks_none (h rb : Nat) (N : List Nd) (hN : NOk N) (hno : NoFork N) (w : World) (H : HR [] w h rb N) : Ans Tryz.prog 50 [ptr h] (.x (.slice none 0 0)) w := by
 have hNl := hN.len
 have hsl := sortedB_len N
 have hol := own_len N (sortedB N)
 have hnd := hr_nd H
 refine calls_e [.x (ptr h)] Tryz.func50 rfl rfl (Nat.le_of_ble_eq_true rfl) trivial fun B hB => ?_
 repeat refine zq ?_
 refine zr ?_; conv => whnf
 repeat refine zq ?_
 refine zr ?_; conv => whnf
 repeat refine zq ?_
 refine zr ?_; conv => whnf
 refine newAbG_call (fun i : Nat × List (Int × Value) × List Nat => .x (.map (some i.1))) (fun i => i.2.2) (fun i => OwnQ i.1 i.2.1 i.2.2 (ownB N)) (fun i => OwnG i.2.1 (ownB N)) b48 (fun _ => rfl) (fun w' hw => own_r h rb N hN w' (H.ext hw.fr)) ?_
 rintro ⟨m, vs, Bs⟩ hg
 conv => whnf
 repeat refine zq ?_
 refine zr ?_; conv => whnf
 refine keys_call ?_
 intro bk; conv => whnf
 refine ansR_call b75 (rd1 (nopI _)) (fun w' hw => by
  have ho : OwnR [] w' m vs (ownB N) := (hw.objs _ (look_mem (s := 0) rfl)).2 w' fun _ _ => rfl
  have hvl : vs.length = (ownB N).length := by have := congrArg List.length ho.keys; simpa using this
  have hob : (ownB N).length ≤ (sortedB N).length := hol
  have := sortedKeys_c m bk vs w' ho.map (fun p hp => by
   have : p.1 ∈ (ownB N).map (·.1) := by rw [← ho.keys]; exact List.mem_map.2 ⟨p, hp, rfl⟩
   obtain ⟨q, hq, e⟩ := List.mem_map.1 this
   obtain ⟨x, hx, e2⟩ := own_keys N (sortedB N) hq
   have := (ent_ok hN (sorted_mem.1 hx) hnd).author
   rw [e2, e] at this; exact this) (by omega) (hw.box (id := 1) rfl)
  rw [ho.keys] at this; exact this) ?_
 intro vk; conv => whnf
 generalize hks : sortI ((ownB N).map (·.1)) = ks
 have hkl : ks.length = (ownB N).length := by rw [← hks, sortI_len, List.length_map]
 have hob : (ownB N).length ≤ (sortedB N).length := hol
 refine ⟨rfl, ?_⟩; conv => whnf
 repeat refine zq ?_
 refine At.block ?_
 refine At.loopH (fun k : Nat => { N := Tryz.f50.ntmps, sl := [(0, some (.x ((ptr h)))), (3, some (.x ((.slice none 0 0)))), (4, some (.x ((.map (some m))))), (13, some (.s (.c (.o 2 vk)))), (14, some (.i ks.length)), (15, some (.i k))], gl := [], hp := [(2, .row vk 3 1 (ks.map encI)), (0, LO.ab Bs (OwnQ m vs Bs (ownB N)))], S := [], ws := w }) (fun k : Nat => k ≤ ks.length) (fun k : Nat => ks.length - k)
  (fun w' hw => ⟨0, Nat.zero_le _, Le.of rfl rfl ⟨rfl, rfl, rfl, rfl, congrArg (Value.int .i64) (by simp), rfl, trivial⟩, hw.keep [2, 0] rfl rfl rfl, ⟨⟨_, _, _, rfl⟩, trivial⟩, ⟨(nopI _).okH, trivial⟩⟩) ?_
 intro k hk
 repeat refine zq ?_
 refine zr ?_; conv => whnf
 repeat refine zq ?_
 refine At.cond rfl (fun hc => At.skip ?_) (fun hc => At.exit ?_)
 ·have hlta : k < ks.length := by have := of_decide_eq_true hc; omega
  obtain ⟨a, ha⟩ : ∃ x, ks[k]? = some x := ⟨_, List.getElem?_eq_getElem hlta⟩
  have hlt : k < ks.length := by have := of_decide_eq_true hc; omega
  have hll : ∀ b ∈ (alook (ownB N) a).getD [], b ∈ marksB N ∧ (entB N b).author = a := fun b hb => by
   unfold ownB at hb
   rw [own_look] at hb
   have := List.mem_filter.1 hb
   exact ⟨sorted_mem.1 this.1, of_decide_eq_true this.2⟩
  repeat refine zq ?_
  refine At.block ?_
  repeat refine zq ?_
  refine zr ?_; conv => whnf
  refine ⟨rfl, ?_⟩; conv => whnf
  refine ⟨by omega, ?_⟩; conv => whnf
  refine ⟨by (try simp only [List.length_map]); omega, ?_⟩; conv => whnf
  refine ⟨encI a, ⟨rfl, rfl, by omega, by rw [Int.toNat_natCast, List.getElem?_map, ha]; rfl⟩, ?_⟩; conv => whnf
  repeat refine zq ?_
  refine zr ?_; conv => whnf
  refine ⟨.x ((alook vs a).getD (.slice none 0 0)), gimp_of (rawQ_l rfl rfl (fun w' hw => (((hw.objs _ (look_mem (s := 0) rfl)).2 w' fun _ _ => rfl : OwnR [] w' m vs (ownB N))).map)), ?_⟩; conv => whnf
  refine ans_call b77 rfl (fun w' hw => pair_none h rb N hN ((alook (ownB N) a).getD []) (fun x hx y hy => hno x (hll x hx).1 y (hll y hy).1 ((hll x hx).2.trans (hll y hy).2.symm)) _ w' (H.ext hw.fr) ((((hw.objs _ (look_mem (s := 0) rfl)).2 w' fun _ _ => rfl : OwnR [] w' m vs (ownB N))).sl a)) ?_; conv => whnf
  intro b7; conv => whnf
  repeat refine zq ?_
  refine zr ?_; conv => whnf
  repeat refine zq ?_
  refine At.cond (t := false) rfl (fun hq => by cases hq) (fun _ => At.skip ?_)
  repeat refine zq ?_
  refine zr ?_; conv => whnf
  refine ⟨⟨by omega, by omega⟩, ?_⟩; conv => whnf
  refine At.nextH fun w' hw => ⟨k + 1, by omega, by omega, Le.of rfl rfl ⟨rfl, rfl, rfl, rfl, rfl, rfl, trivial⟩, hw.keep [2, 0] rfl rfl rfl, ⟨⟨_, _, _, rfl⟩, trivial⟩, ⟨(nopI _).okH, trivial⟩⟩
 ·have hge : k = ks.length := by have := of_decide_eq_false hc; omega
  subst hge
  repeat refine zq ?_
  refine zr ?_; conv => whnf
  repeat refine zq ?_
  refine At.ret (At.doneB tab_ok hB _ rfl fun w' hw => ⟨rfl, hw.fr⟩)
theorem guilty_none (h rb : Nat) (N : List Nd) (hN : NOk N) (hno : NoFork N) (w : World) (H : HR [] w h rb N) : Ans Tryz.prog 23 [ptr h] (.x (.slice none 0 0)) w := by
 refine calls_e [.x (ptr h)] Tryz.func23 rfl rfl (Nat.le_of_ble_eq_true rfl) trivial fun B hB => ?_
 repeat refine zq ?_
 refine zr ?_; conv => whnf
 repeat refine zq ?_
 refine zr ?_; conv => whnf
 repeat refine zq ?_
 refine zr ?_; conv => whnf
 refine ans_call b50 rfl (fun w' hw => forks_none h rb N hN hno w' (H.ext hw.fr)) ?_; conv => whnf
 refine ⟨nilSl, ?_⟩; conv => whnf
 repeat refine zq ?_
 refine At.block ?_
 refine At.loopH (fun u : Nat => { N := Tryz.f23.ntmps, sl := [(3, some (.x ((.slice none 0 0)))), (10, some (.i 0)), (11, some (.i 0))], gl := [], hp := [], S := [], ws := w }) (fun u : Nat => True) (fun u : Nat => 0)
  (fun w' hw => ⟨0, trivial, Le.of rfl rfl ⟨rfl, rfl, rfl, trivial⟩, hw.same rfl rfl rfl, trivial, trivial⟩) ?_
 intro u _
 repeat refine zq ?_
 refine zr ?_; conv => whnf
 repeat refine zq ?_
 refine At.cond rfl (fun hq => ?_) (fun _ => At.exit ?_)
 ·exact absurd (of_decide_eq_true hq) (by decide)
 repeat refine zq ?_
 refine zr ?_; conv => whnf
 repeat refine zq ?_
 refine At.ret (At.doneB tab_ok hB _ rfl fun w' hw => ⟨rfl, hw.fr⟩)
def ownOf (N : List Nd) (a : Int) : List Int := (sortedB N).filter fun m => decide ((entB N m).author = a)
theorem ownOf_eq (N : List Nd) (a : Int) : (alook (ownB N) a).getD [] = ownOf N a := own_look N a (sortedB N)
def badSt (N : List Nd) (l : List Int) (i : Nat) : Bool := !decide ((entB N (l.getD i 0)).seq = (i : Int)) || (decide (0 < i) && !beforeB N (l.getD (i - 1) 0) (l.getD i 0))
def straightB (N : List Nd) (a : Int) : Bool := (List.range (ownOf N a).length).all fun i => !badSt N (ownOf N a) i
theorem straight_r (h rb : Nat) (N : List Nd) (hN : NOk N) (a : Int) (w : World) (H : HR [] w h rb N) : Ans Tryz.prog 17 [ptr h, vI a] (.b (straightB N a)) w := by
 have hNl := hN.len
 have hsl := sortedB_len N
 refine calls_e [.x (ptr h), .i a] Tryz.func17 rfl rfl (Nat.le_of_ble_eq_true rfl) trivial fun B hB => ?_
 repeat refine zq ?_
 refine zr ?_; conv => whnf
 repeat refine zq ?_
 refine zr ?_; conv => whnf
 refine newAbG_call (fun i : Nat × List (Int × Value) × List Nat => .x (.map (some i.1))) (fun i => i.2.2) (fun i => OwnQ i.1 i.2.1 i.2.2 (ownB N)) (fun i => OwnG i.2.1 (ownB N)) b48 (fun _ => rfl) (fun w' hw => own_r h rb N hN w' (H.ext hw.fr)) ?_
 rintro ⟨m, vs, Bs⟩ hg
 conv => whnf
 refine ⟨.x ((alook vs a).getD (.slice none 0 0)), gimp_of (rawQ_l rfl rfl (fun w' hw => (((hw.objs _ (look_mem (s := 0) rfl)).2 w' fun _ _ => rfl : OwnR [] w' m vs (ownB N))).map)), ?_⟩; conv => whnf
 obtain ⟨hvs, hvn⟩ := hg a
 rw [ownOf_eq] at hvn
 have hll : (ownOf N a).length ≤ (sortedB N).length := List.length_filter_le _ _
 have hst : straightB N a = (List.range (ownOf N a).length).all fun i => !badSt N (ownOf N a) i := rfl
 have hSl : ∀ w', OwnR [] w' m vs (ownB N) → SlOf intT [] w' ((alook vs a).getD (.slice none 0 0)) (ownOf N a) := fun w' ho => by rw [← ownOf_eq]; exact ho.sl a
 generalize (alook vs a).getD (.slice none 0 0) = v at hvs hvn hSl ⊢
 generalize ownOf N a = l at hvn hll hst hSl ⊢
 repeat refine zq ?_
 refine zr ?_; conv => whnf
 refine ⟨hvs, ?_⟩; conv => whnf
 repeat refine zq ?_
 refine At.block ?_
 refine At.loopH (fun k : Nat => { N := Tryz.f17.ntmps, sl := [(0, some (.x ((ptr h)))), (5, some (.x v)), (14, some (.x v)), (15, some (.i l.length)), (16, some (.i k))], gl := [], hp := [(0, LO.ab Bs (OwnQ m vs Bs (ownB N)))], S := [], ws := w }) (fun k : Nat => k ≤ l.length ∧ ∀ j, j < k → (fun i => !badSt N l i) j = true) (fun k : Nat => l.length - k)
  (fun w' hw => ⟨0, ⟨Nat.zero_le _, fun j hj => by omega⟩, Le.of rfl rfl ⟨rfl, rfl, rfl, congrArg (Value.int .i64) hvn, rfl, trivial⟩, hw.keep [0] rfl rfl rfl, trivial, trivial⟩) ?_
 rintro k ⟨hk, hall⟩
 repeat refine zq ?_
 refine zr ?_; conv => whnf
 repeat refine zq ?_
 refine At.cond rfl (fun hc => At.skip ?_) (fun hc => At.exit ?_)
 ·have hlt : k < l.length := by have := of_decide_eq_true hc; omega
  have hx := getD_some hlt
  repeat refine zq ?_
  refine At.block ?_
  repeat refine zq ?_
  refine zr ?_; conv => whnf
  refine ⟨by omega, ?_⟩; conv => whnf
  refine ⟨by omega, ?_⟩; conv => whnf
  refine ⟨[.i (l.getD k 0)], fun w' hw => (hSl w' ((hw.objs _ (look_mem (s := 0) rfl)).2 w' fun _ _ => rfl)).load (n := 1) (ext_refl w') hx rfl, ?_⟩; conv => whnf
  repeat refine zq ?_
  refine zr ?_; conv => whnf
  refine entry_call (h := h) (rb := rb) (N := N) (mk := l.getD k 0) hN (fun w' hw => H.ext hw.fr) ?_
  intro k4 y5 s6; conv => whnf
  intro b7; conv => whnf
  repeat refine zq ?_
  refine zr ?_; conv => whnf
  refine ⟨by simp only [gimp]; intro h1 _; have := of_decide_eq_true h1; exact ⟨by omega, by omega⟩, ?_⟩; conv => whnf
  refine ⟨by simp only [gimp]; intro h1 _; have := of_decide_eq_true h1; omega, ?_⟩; conv => whnf
  refine ⟨by simp only [gimp]; intro h1 _; have := of_decide_eq_true h1; omega, ?_⟩; conv => whnf
  refine ⟨[.i (l.getD (k - 1) 0)], by simp only [gimp]; intro h1 _ w' hw; have := of_decide_eq_true h1; exact (hSl w' ((hw.objs _ (look_mem (s := 0) rfl)).2 w' fun _ _ => rfl)).loadI (n := 1) (ext_refl w') (by omega) (by rw [← getD_some (by omega)]; congr 1; omega) rfl, ?_⟩; conv => whnf
  refine ⟨.b (beforeB N (l.getD (k - 1) 0) (l.getD k 0)), gimp_of (ans_quiet b14 (fun w' hw => before_r h rb N hN _ _ w' (H.ext hw.fr))), ?_⟩; conv => whnf
  have eb : (!decide ((entB N (l.getD k 0)).seq = (k : Int)) || (decide (0 < (k : Int)) && !beforeB N (l.getD (k - 1) 0) (l.getD k 0))) = badSt N l k := by
   unfold badSt; rw [show decide (0 < (k : Int)) = decide (0 < k) by rw [decide_eq_decide]; omega]
  repeat refine zq ?_
  refine At.cond rfl (fun hq => ?_) (fun hq => At.skip ?_)
  ·have hB' : badSt N l k = true := by rw [← eb]; simpa only [bor, band] using hq
   repeat refine zq ?_
   refine zr ?_; conv => whnf
   repeat refine zq ?_
   refine At.ret (At.doneB tab_ok hB _ rfl fun w' hw => ⟨?_, hw.fr⟩)
   rw [hst, all_false (k := k) hlt (by rw [hB']; rfl)]
  ·have hB' : badSt N l k = false := by rw [← eb]; simpa only [bor, band] using hq
   repeat refine zq ?_
   refine zr ?_; conv => whnf
   refine ⟨⟨by omega, by omega⟩, ?_⟩; conv => whnf
   refine At.nextH fun w' hw => ⟨k + 1, ⟨by omega, fun j hj => by rcases Nat.lt_or_ge j k with h' | h'; exact hall j h'; obtain rfl : j = k := (by omega); simp only; rw [hB']; rfl⟩, by omega, Le.of rfl rfl ⟨rfl, rfl, rfl, rfl, rfl, trivial⟩, hw.keep [0] rfl rfl rfl, trivial, trivial⟩
 ·have hge : k = l.length := by have := of_decide_eq_false hc; omega
  subst hge
  repeat refine zq ?_
  refine zr ?_; conv => whnf
  repeat refine zq ?_
  refine At.ret (At.doneB tab_ok hB _ rfl fun w' hw => ⟨?_, hw.fr⟩)
  rw [hst, all_true hall]
end Go.Proofs.YtdigebokbhmfaaaGreatDoor.Ap
namespace Go.Proofs.YtdigebokbhmfaaaGreatDoor.Ap
open Go.Vc Rt Go.Bs
theorem sortI_sorted (xs : List Int) : (sortI xs).Pairwise (· ≤ ·) := by
 have := List.pairwise_mergeSort (le := fun x y : Int => decide (x ≤ y)) (fun a b c h1 h2 => by simp only [decide_eq_true_eq] at *; omega) (fun a b => by simp only [Bool.or_eq_true, decide_eq_true_eq]; omega) xs
 exact this.imp fun h => of_decide_eq_true h
theorem sortI_perm (xs : List Int) : (sortI xs).Perm xs := List.mergeSort_perm _ _
theorem sortI_eq {xs ys : List Int} (h : xs.Perm ys) : sortI xs = sortI ys :=
 List.Perm.eq_of_pairwise (le := fun a b : Int => a ≤ b) (fun a b _ _ h1 h2 => Int.le_antisymm h1 h2) (sortI_sorted xs) (sortI_sorted ys) ((sortI_perm xs).trans (h.trans (sortI_perm ys).symm))
theorem mks_mem {N : List Nd} {m : Int} : m ∈ marksB N ↔ m ∈ mksN N := (marks_perm N).mem_iff
theorem sor_mem {N : List Nd} {m : Int} : m ∈ sortedB N ↔ m ∈ mksN N := sorted_mem.trans mks_mem
theorem marks_eq {R : List SK} {N N' : List Nd} (h : GN R N) (h' : GN R N') (e : ∀ m, m ∈ mksN N ↔ m ∈ mksN N') : marksB N = marksB N' :=
 sortI_eq ((List.perm_ext_iff_of_nodup h.nodup h'.nodup).2 e)
theorem sorted_perm (N : List Nd) : (sortedB N).Perm (mksN N) := (canB_perm N).map Nd.mark
theorem GN.snodup {R : List SK} {N : List Nd} (h : GN R N) : (sortedB N).Nodup := (sorted_perm N).nodup_iff.2 h.nodup
def ndOf (N : List Nd) (m : Int) : Nd := nodeAt N ((alook (hidx N) m).getD 0)
theorem GN.ndOf {R : List SK} {N : List Nd} (h : GN R N) {i : Nat} {n : Nd} (hi : N[i]? = some n) : ndOf N n.mark = n := by
 unfold Ap.ndOf
 rw [h.look hi, Option.getD_some, nodeAt_get hi]
theorem sorted_pw {R : List SK} {N X : List Nd} (h : GN R N) (hX : GN R X) (hs : ∀ m ∈ mksN X, m ∈ mksN N) : (sortedB X).Pairwise (fun a b => ¬ ltN (Ap.ndOf N b) (Ap.ndOf N a)) := by
 unfold sortedB
 rw [List.pairwise_map]
 refine (canB_pw X).imp_of_mem fun {a b} ha hb hab => ?_
 obtain ⟨i, hi⟩ := List.getElem?_of_mem ((canB_perm X).mem_iff.1 ha)
 obtain ⟨j, hj⟩ := List.getElem?_of_mem ((canB_perm X).mem_iff.1 hb)
 obtain ⟨i', a', hi', ea⟩ := mks_get (hs a.mark (List.mem_map.2 ⟨a, List.mem_of_getElem? hi, rfl⟩))
 obtain ⟨j', b', hj', eb⟩ := mks_get (hs b.mark (List.mem_map.2 ⟨b, List.mem_of_getElem? hj, rfl⟩))
 have la := level_eq h hX i' a' hi' i a hi ea
 have lb := level_eq h hX j' b' hj' j b hj eb
 have ca := (core_eq h hX hi' hi ea).2.2
 have cb := (core_eq h hX hj' hj eb).2.2
 rw [← ea, ← eb, h.ndOf hi', h.ndOf hj']
 unfold ltN at hab ⊢
 rw [la, lb, ca, cb, ea, eb]
 exact hab
theorem GN.own_nodup {R : List SK} {N : List Nd} (h : GN R N) (a : Int) : (ownOf N a).Nodup := h.snodup.filter _
theorem own_mem {N : List Nd} {a m : Int} : m ∈ ownOf N a ↔ m ∈ mksN N ∧ (entB N m).author = a := by
 unfold ownOf
 rw [List.mem_filter, sor_mem, decide_eq_true_eq]
theorem GN.sorted_anc {R : List SK} {N : List Nd} (h : GN R N) : (sortedB N).Pairwise (fun a b => ¬ AncR R b a) := by
 refine (sorted_pw h h fun m hm => hm).imp_of_mem fun {a b} ha hb hab hq => hab ?_
 obtain ⟨i, x, hi, rfl⟩ := mks_get (sor_mem.1 ha)
 obtain ⟨j, y, hj, rfl⟩ := mks_get (sor_mem.1 hb)
 rw [h.ndOf hi, h.ndOf hj]
 exact .inl (h.level_lt hq i j x y hi rfl hj rfl)
theorem GN.own_anc {R : List SK} {N : List Nd} (h : GN R N) (a : Int) : (ownOf N a).Pairwise (fun x y => ¬ AncR R y x) := h.sorted_anc.filter _
def cutO (N : List Nd) (a n : Int) : Nat := (ownOf N a).length - min n.toNat (ownOf N a).length
def goneB (N : List Nd) (a n : Int) : List Int := (ownOf N a).drop (cutO N a n)
def lostQ (N : List Nd) (a n : Int) (m : Int) : Bool := (goneB N a n).any fun g => decide (g = m) || beforeB N g m
def keptB (N : List Nd) (a n : Int) : List Int := (marksB N).filter fun m => !lostQ N a n m
def beforeH (R : List SK) (N : List Nd) (a n : Int) : List Nd := restrictB R N (keptB N a n)
theorem lost_iff {R : List SK} {N : List Nd} (h : GN R N) {a n m : Int} (hm : m ∈ mksN N) : lostQ N a n m = true ↔ ∃ g ∈ goneB N a n, g = m ∨ AncR R g m := by
 unfold lostQ
 rw [List.any_eq_true]
 constructor
 ·rintro ⟨g, hg, hq⟩
  rw [Bool.or_eq_true, decide_eq_true_eq, h.before_iff] at hq
  exact ⟨g, hg, hq.imp _root_.id And.right⟩
 ·rintro ⟨g, hg, hq⟩
  refine ⟨g, hg, ?_⟩
  rw [Bool.or_eq_true, decide_eq_true_eq, h.before_iff]
  exact hq.imp _root_.id fun hq => ⟨hm, hq⟩
section
variable {R : List SK} {N : List Nd} (h : GN R N) (hRl : R.length ≤ 4000) (a n : Int)
include h hRl
theorem before_good : GN R (beforeH R N a n) := (restrict_good h hRl _).1
theorem before_mem {m : Int} : m ∈ mksN (beforeH R N a n) ↔ m ∈ mksN N ∧ lostQ N a n m = false := by
 unfold beforeH
 rw [(restrict_good h hRl _).2]
 unfold keptB
 constructor
 ·rintro ⟨b, hb, hbm, hq⟩
  obtain ⟨hb1, hb2⟩ := List.mem_filter.1 hb
  have hm : m ∈ mksN N := hq.elim (fun e => by rw [e]; exact hbm) fun e => h.anc_mem e hbm
  refine ⟨hm, ?_⟩
  rw [← Bool.not_eq_true, lost_iff h hm]
  rintro ⟨g, hg, hq2⟩
  have : lostQ N a n b = true := (lost_iff h hbm).2 ⟨g, hg, by
   rcases hq with rfl | hq
   ·exact hq2
   ·rcases hq2 with rfl | hq2
    ·exact .inr hq
    ·exact .inr (hq2.trans hq)⟩
  rw [this] at hb2; cases hb2
 ·rintro ⟨hm, hq⟩
  exact ⟨m, List.mem_filter.2 ⟨mks_mem.2 hm, by rw [hq]; rfl⟩, hm, .inl rfl⟩
end
theorem straight_iff {N : List Nd} {a : Int} : straightB N a = true ↔ ∀ (i : Nat) m, (ownOf N a)[i]? = some m → (entB N m).seq = (i : Int) ∧ ∀ m', 0 < i → (ownOf N a)[i - 1]? = some m' → beforeB N m' m = true := by
 have gd : ∀ {i : Nat} {m : Int}, (ownOf N a)[i]? = some m → (ownOf N a).getD i 0 = m := fun {i m} hi => by rw [List.getD_eq_getElem?_getD, hi]; rfl
 unfold straightB
 rw [List.all_eq_true]
 constructor
 ·intro h i m hi
  have hb := h i (List.mem_range.2 (List.getElem?_eq_some_iff.1 hi).1)
  unfold badSt at hb
  rw [gd hi] at hb
  simp only [Bool.not_or, Bool.not_not, Bool.and_eq_true, decide_eq_true_eq, Bool.not_and, Bool.or_eq_true, Bool.not_eq_true', decide_eq_false_iff_not] at hb
  refine ⟨hb.1, fun m' h0 hi' => ?_⟩
  rw [gd hi'] at hb
  exact hb.2.resolve_left fun hq => hq h0
 ·intro h i hi
  have hi := List.mem_range.1 hi
  obtain ⟨m, hm⟩ : ∃ m, (ownOf N a)[i]? = some m := ⟨_, List.getElem?_eq_getElem hi⟩
  obtain ⟨h1, h2⟩ := h i m hm
  unfold badSt
  rw [gd hm, decide_eq_true h1]
  by_cases h0 : 0 < i
  ·obtain ⟨m', hm'⟩ : ∃ m, (ownOf N a)[i - 1]? = some m := ⟨_, List.getElem?_eq_getElem (by omega)⟩
   rw [gd hm', h2 m' h0 hm']; simp
  ·rw [decide_eq_false h0]; rfl
end Go.Proofs.YtdigebokbhmfaaaGreatDoor.Ap
namespace Go.Proofs.YtdigebokbhmfaaaGreatDoor.Ap
open Go.Vc Rt Go.Bs
set_option maxHeartbeats 1000000
def vT1 : Ty Value := flat 1 (fun v => [.x v]) (fun _ => rfl)
theorem box_v {w : World} {b : Nat} {T : TypeId} {S : List Nat} {v : Value} (hb : w.heap[b]? = some (.cells #[v] T (0, 0))) (hS : b ∉ S) : SlOf vT1 S w (hs b) [v] := by
 have hrow : (LO.row (hs b) T 1 ([v].map fun v => [CV.x v])).holds w := ⟨⟨rfl, .inr ⟨b, 0, 1, _, rfl, hb, Nat.le_refl 1, by unfold maxLen; omega, by simp, rfl⟩⟩, fun l hl => by rw [List.mem_singleton.1 hl]; rfl⟩
 exact SlOf.of_row (enc := fun v => [.x v]) hrow (fun b' hb' => by simp only [hs, blkOf, List.mem_singleton] at hb'; rw [hb']; exact hS) (by simp)
theorem sorted_nd {N : List Nd} (hn : (N.map Nd.mark).Nodup) : (sortedB N).Nodup := ((canB_perm N).map Nd.mark).nodup_iff.2 hn
theorem nodup_get {l : List Int} (hn : l.Nodup) {k : Nat} {x : Int} (hx : l[k]? = some x) : x ∉ l.take k := fun hm => by
 obtain ⟨j, hj⟩ := List.getElem?_of_mem hm
 rw [List.getElem?_take] at hj
 split at hj
 ·rename_i hjk
  obtain ⟨a1, b1⟩ := List.getElem?_eq_some_iff.1 hj
  obtain ⟨a2, b2⟩ := List.getElem?_eq_some_iff.1 hx
  have := (List.getElem_inj (xs := l) (i := j) (j := k) (h₀ := a1) (h₁ := a2) hn).1 (by rw [b1, b2])
  omega
 ·cases hj
theorem setT_put {l : List Int} (hn : l.Nodup) {k : Nat} {x : Int} (hx : l[k]? = some x) : aput ((l.take k).map fun x => (x, true)) x true = (l.take (k + 1)).map fun x => (x, true) := by
 unfold aput; rw [setT_none (nodup_get hn hx), take_snoc hx, List.map_append]; rfl
theorem put_c (h rb : Nat) (N : List Nd) (hN : NOk N) (mv : Value) (b2 b8 b6 ms : Nat) (w : World) (hne : b6 ≠ ms) (H : HR [b6, ms] w h rb N) (h2 : SlOf vT1 [b6, ms] w (hs b2) [ptr h]) (h8 : SlOf vT1 [b6, ms] w (hs b8) [.map (some ms)])
  (h6 : w.heap[b6]? = some (.cells #[.slice none 0 0] 23 (0, 0))) (hm : MapAt vI vB w ms ([] : List (Int × Bool))) (hmv2 : SlOf intT [b6, ms] w mv (marksB N)) :
  Calls Tryz.prog 129 #[mv, ptr b2, ptr b8, ptr b6] w (fun e w' => ∃ v, e = .returned (.tuple #[]) ∧ w'.heap[b6]? = some (.cells #[v] 23 (0, 0)) ∧ (LO.row v 3 1 ((sortedB N).map encI)).holds w' ∧ Fr [b6, ms] w w' ∧ (∀ b ∈ blkOf v, w.heap.size ≤ b) ∧ b6 ∉ blkOf v) := by
 have hNl := hN.len
 have hsl := sortedB_len N
 have hsd := sorted_nd (hr_nd H)
 have hobj : ∀ o ∈ [(0, LO.box b6 23 [.x (.slice none 0 0)]), (1, mapO vI vB ms ([] : List (Int × Bool)))], o.2.holds w := fun o ho => by
  simp only [List.mem_cons, List.not_mem_nil, or_false] at ho
  rcases ho with rfl | rfl
  ·exact h6
  ·exact mapO_holds hm
 have hS : ([(0, LO.box b6 23 [.x (.slice none 0 0)]), (1, mapO vI vB ms ([] : List (Int × Bool)))].flatMap fun o => o.2.blks) = [b6, ms] := by simp [LO.blks, mapO, nub]
 have hen := enter_objs (N := Tryz.f129.ntmps) (l := [.x mv, .s (.c (.e (hs b2) 1 0 0)), .s (.c (.e (hs b8) 1 0 0)), .s (.c (.p 0 b6 0))]) (hp := [(0, LO.box b6 23 [.x (.slice none 0 0)]), (1, mapO vI vB ms ([] : List (Int × Bool)))]) (w := w) hobj (by rw [hS]; simp [hne])
 rw [hS] at hen
 refine calls_atB [.x mv, .s (.c (.e (hs b2) 1 0 0)), .s (.c (.e (hs b8) 1 0 0)), .s (.c (.p 0 b6 0))] [(0, LO.box b6 23 [.x (.slice none 0 0)]), (1, mapO vI vB ms ([] : List (Int × Bool)))] [b6, ms] Tryz.func129 rfl rfl (Nat.le_of_ble_eq_true rfl) (WF.objs hen ⟨⟨_, _, _, rfl⟩, ⟨_, _, _, rfl⟩, ⟨_, _, rfl⟩, trivial⟩ trivial) hen fun B hB => ?_
 repeat refine zq ?_
 refine zr ?_; conv => whnf
 refine ⟨[.x (ptr h)], fun w' hw => h2.load (n := 1) (i := 0) (off := 0) hw.fr rfl rfl, ?_⟩; conv => whnf
 refine ansR_call b11 (rd1 (nopI _)) (fun w' hw => sorted_r h rb N hN mv w' ((H.fr hw.fr).nilS) ((hmv2.fr hw.fr).avoid fun b hb => by cases hb)) ?_
 intro vs; conv => whnf
 refine ⟨rfl, ?_⟩; conv => whnf
 repeat refine zq ?_
 refine At.block ?_
 refine At.loopH (fun p' : Nat × Value => { N := Tryz.f129.ntmps, sl := [(2, some (.s (.c (.e (hs b8) 1 0 0)))), (3, some (.s (.c (.p 0 b6 0)))), (9, some (.s (.c (.o 2 vs)))), (10, some (.i ((sortedB N).length))), (11, some (.i p'.1))], gl := [], hp := [(3, .row p'.2 3 1 (((sortedB N).take p'.1).map encI)), (2, .row vs 3 1 ((sortedB N).map encI)), (0, .box b6 23 [.o 3 p'.2]), (1, mapO vI vB ms (((sortedB N).take p'.1).map fun x => (x, true)))], S := [b6, ms], ws := w }) (fun p' : Nat × Value => p'.1 ≤ (sortedB N).length) (fun p' : Nat × Value => (sortedB N).length - p'.1)
  (fun w' hw => ⟨(0, .slice none 0 0), Nat.zero_le _, Le.of rfl rfl ⟨rfl, rfl, rfl, congrArg (Value.int .i64) (by simp), rfl, trivial⟩, hw.nilBox [_] [_] rfl rfl rfl rfl rfl, ⟨⟨_, _, _, rfl⟩, ⟨_, _, rfl⟩, ⟨_, _, _, rfl⟩, trivial⟩, ⟨(nopI _).okH, (nopI _).okH, fun c hc => by simp at hc; rcases hc with rfl <;> first | exact ⟨_, _, _, rfl⟩ | exact ⟨_, _, rfl⟩ | trivial, trivial⟩⟩) ?_
 rintro ⟨k, vo⟩ hk
 simp only at hk ⊢
 repeat refine zq ?_
 refine zr ?_; conv => whnf
 repeat refine zq ?_
 refine At.cond rfl (fun hc => At.skip ?_) (fun hc => At.exit ?_)
 ·have hlt : k < (sortedB N).length := by have := of_decide_eq_true hc; omega
  obtain ⟨x, hx⟩ : ∃ x, (sortedB N)[k]? = some x := ⟨_, List.getElem?_eq_getElem hlt⟩
  have hlt : k < (sortedB N).length := by have := of_decide_eq_true hc; omega
  have hput := setT_put hsd hx
  have hnone := setT_none (nodup_get hsd hx)
  repeat refine zq ?_
  refine At.block ?_
  repeat refine zq ?_
  refine zr ?_; conv => whnf
  refine ⟨rfl, ?_⟩; conv => whnf
  refine ⟨by omega, ?_⟩; conv => whnf
  refine ⟨by (try simp only [List.length_map]); omega, ?_⟩; conv => whnf
  refine ⟨encI x, ⟨rfl, rfl, by omega, by rw [Int.toNat_natCast, List.getElem?_map, hx]; rfl⟩, ?_⟩; conv => whnf
  repeat refine zq ?_
  refine zr ?_; conv => whnf
  refine ⟨[.x (.map (some ms))], fun w' hw => h8.load (n := 1) (i := 0) (off := 0) hw.fr rfl rfl, ?_⟩; conv => whnf
  refine ⟨.b ((alook (((sortedB N).take k).map fun x => (x, true)) x).getD false), gimp_of (rawQ_b rfl rfl (fun w' hw => mapO_at (hw.objs _ (look_mem (s := 1) rfl)))), ?_⟩; conv => whnf
  rw [hnone]
  repeat refine zq ?_
  refine At.cond (t := true) rfl (fun _ => ?_) (fun hq => by cases hq)
  repeat refine zq ?_
  refine zr ?_; conv => whnf
  refine ⟨[.x (.map (some ms))], fun w' hw => h8.load (n := 1) (i := 0) (off := 0) hw.fr rfl rfl, ?_⟩; conv => whnf
  refine rawE_update (id := 1) (key := x) (v := true) kl3 ⟨x, rfl⟩ (fun p _ => ⟨p.1, rfl⟩) vI_inj um92 rfl rfl rfl rfl rfl rfl ?_; conv => whnf
  repeat refine zq ?_
  refine zr ?_; conv => whnf
  intro v4; conv => whnf
  refine ⟨rfl, ?_⟩; conv => whnf
  refine ⟨⟨rfl, by simp; omega⟩, ?_⟩; conv => whnf
  intro v5; conv => whnf
  repeat refine zq ?_
  refine zr ?_; conv => whnf
  refine ⟨⟨by omega, by omega⟩, ?_⟩; conv => whnf
  refine At.nextH fun w' hw => ⟨(k + 1, v5), by simp only; omega, by simp only; omega, Le.of rfl rfl ⟨rfl, rfl, rfl, rfl, rfl, trivial⟩, hw.keep [3, 2, 0, 1] (by simp only [hput, take_snoc hx, List.map_append]; rfl) rfl rfl, ⟨⟨_, _, _, rfl⟩, ⟨_, _, rfl⟩, ⟨_, _, _, rfl⟩, trivial⟩, ⟨(nopI _).okH, (nopI _).okH, fun c hc => by simp at hc; rcases hc with rfl <;> first | exact ⟨_, _, _, rfl⟩ | exact ⟨_, _, rfl⟩ | trivial, trivial⟩⟩
 ·have hge : k = (sortedB N).length := by have := of_decide_eq_false hc; omega
  subst hge
  rw [List.take_length]
  refine At.doneN tab_ok hB _ rfl fun w' hw => ?_
  refine ⟨vo, rfl, hw.box (id := 0) rfl, hw.row (id := 3) rfl, hw.fr, fun b hb => ?_, fun hb => hw.apart (i := 3) (j := 0) rfl rfl (by decide) b6 hb (by simp [LO.blks])⟩
  rcases hw.fresh (id := 3) rfl b hb with hb' | hb'
  ·exfalso
   simp only [List.mem_cons, List.not_mem_nil, or_false] at hb'
   rcases hb' with rfl | rfl
   ·exact hw.apart (i := 3) (j := 0) rfl rfl (by decide) _ hb (by simp [LO.blks])
   ·exact hw.apart (i := 3) (j := 1) rfl rfl (by decide) _ hb (mem_nub.2 (by simp))
  ·exact hb'
theorem sequence_r (h rb : Nat) (N : List Nd) (hN : NOk N) (hm : ∀ x ∈ marksB N, (entB N x).kind ≠ 18 ∧ (entB N x).kind ≠ 19 ∧ (entB N x).kind ≠ 20) (ks : List Int) (kv : Value) (liars seed : Int) (w : World) (H : HR [] w h rb N) (hs' : SlOf intT [] w kv ks) (hkl : ks.length ≤ 1000000) :
  AnsR Tryz.prog 80 [ptr h, vSt kv liars seed] [.row 3 1 ((sortedB N).map encI), .p (.c (.x (.slice none 0 0)))] w := by
 have hk := hs'.one
 have hNl := hN.len
 have hml := marksB_len N
 refine calls_e [.x (ptr h), .s (.agg (encSt kv liars seed))] Tryz.func80 rfl rfl (Nat.le_of_ble_eq_true rfl) trivial fun B hB => ?_
 repeat refine zq ?_
 refine zr ?_; conv => whnf
 refine ⟨rfl, ?_⟩; conv => whnf
 intro b2; conv => whnf
 refine ⟨hk, ?_⟩; conv => whnf
 intro b3; conv => whnf
 repeat refine zq ?_
 refine zr ?_; conv => whnf
 intro b6; conv => whnf
 repeat refine zq ?_
 refine zr ?_; conv => whnf
 refine rawE_make vI vB ?_
 intro ms; conv => whnf
 intro b8; conv => whnf
 refine ⟨rfl, ?_⟩; conv => whnf
 repeat refine zq ?_
 refine zr ?_; conv => whnf
 repeat refine zq ?_
 refine zr ?_; conv => whnf
 refine ans_call (r := .x (.slice none 0 0)) b130 rfl (fun w' hw => days_nil h rb N hN hm ks kv liars seed w' (H.ext hw.fr) (hs'.ext hw.fr) hkl) ?_; conv => whnf
 refine ⟨nilSl, ?_⟩; conv => whnf
 repeat refine zq ?_
 refine At.block ?_
 refine At.loopH (fun u : Nat => { N := Tryz.f80.ntmps, sl := [(2, some (.s (.c (.p 0 b2 0)))), (6, some (.s (.c (.p 2 b6 0)))), (7, some (.x ((.slice none 0 0)))), (9, some (.x ((.func (.func 129) #[] #[ptr b2, ptr b8, ptr b6])))), (17, some (.i 0)), (18, some (.i 0))], gl := [], hp := [(4, .box b8 92 [.x (.map (some ms))]), (3, mapO vI vB ms ([] : List (Int × Bool))), (2, .box b6 23 [.x (.slice none 0 0)]), (0, .box b2 27 [.x (ptr h)])], S := [], ws := w }) (fun u : Nat => True) (fun u : Nat => 0)
  (fun w' hw => ⟨0, trivial, Le.of rfl rfl ⟨rfl, rfl, rfl, rfl, rfl, rfl, trivial⟩, hw.keep [4, 3, 2, 0] rfl rfl rfl, ⟨⟨_, _, rfl⟩, ⟨_, _, rfl⟩, trivial⟩, trivial⟩) ?_
 intro u _
 repeat refine zq ?_
 refine zr ?_; conv => whnf
 repeat refine zq ?_
 refine At.cond rfl (fun hq => ?_) (fun _ => At.exit ?_)
 ·exact absurd (of_decide_eq_true hq) (by decide)
 repeat refine zq ?_
 refine zr ?_; conv => whnf
 refine ansR_call b12 (rd1 (nopI _)) (fun w' hw => marks_r h rb N hN w' (H.ext hw.fr)) ?_
 intro vm; conv => whnf
 refine two_callF (i1 := 2) (i2 := 3) b129 rfl rfl (by decide) (fun r o1 o2 => r = .tup [] ∧ ∃ v, o1 = .box b6 23 [.x v] ∧ o2 = .ab (ms :: blkOf v) (fun w => (LO.row v 3 1 ((sortedB N).map encI)).holds w)) (fun w' hw => ?_) ?_
 ·have e6 := hw.box (id := 2) rfl
  have e8 := hw.box (id := 4) rfl
  have e2 := hw.box (id := 0) rfl
  have hmp := mapO_at (hw.objs _ (look_mem (s := 3) rfl))
  have n26 : b6 ≠ ms := fun e => hw.apart (i := 2) (j := 3) rfl rfl (by decide) b6 (by simp [LO.blks]) (mem_nub.2 (by simp [e]))
  have n2 : b2 ∉ [b6, ms] := fun hm => by
   simp only [List.mem_cons, List.not_mem_nil, or_false] at hm
   rcases hm with e | e
   ·exact hw.apart (i := 0) (j := 2) rfl rfl (by decide) b2 (by simp [LO.blks]) (by simp [LO.blks, e])
   ·exact hw.apart (i := 0) (j := 3) rfl rfl (by decide) b2 (by simp [LO.blks]) (mem_nub.2 (by simp [e]))
  have n8 : b8 ∉ [b6, ms] := fun hm => by
   simp only [List.mem_cons, List.not_mem_nil, or_false] at hm
   rcases hm with e | e
   ·exact hw.apart (i := 4) (j := 2) rfl rfl (by decide) b8 (by simp [LO.blks]) (by simp [LO.blks, e])
   ·exact hw.apart (i := 4) (j := 3) rfl rfl (by decide) b8 (by simp [LO.blks]) (mem_nub.2 (by simp [e]))
  have nm : ∀ b ∈ blkOf vm, b ∉ [b6, ms] := fun b hb hm => by
   simp only [List.mem_cons, List.not_mem_nil, or_false] at hm
   rcases hm with e | e
   ·exact hw.apart (i := 5) (j := 2) rfl rfl (by decide) b hb (by simp [LO.blks, e])
   ·exact hw.apart (i := 5) (j := 3) rfl rfl (by decide) b hb (mem_nub.2 (by simp [e]))
  have hH : HR [b6, ms] w' h rb N := (hw.liftH H).avoid fun b hb => .inl (by
   simp only [List.mem_cons, List.not_mem_nil, or_false] at hb
   rcases hb with rfl | rfl
   ·exact List.mem_flatMap.2 ⟨_, look_mem (s := 2) rfl, by simp [LO.blks]⟩
   ·exact List.mem_flatMap.2 ⟨_, look_mem (s := 3) rfl, mem_nub.2 (by simp)⟩)
  refine (put_c h rb N hN vm b2 b8 b6 ms w' n26 hH (box_v e2 n2) (box_v e8 n8) e6 hmp (SlOf.of_row (enc := fun n => [.i n]) (hw.row (id := 5) rfl) nm (by omega))).mono ?_
  rintro e w'' ⟨v, he, h6', hrow, hf, hnew, hnv⟩
  refine ⟨.tup [], .box b6 23 [.x v], .ab (ms :: blkOf v) (fun w => (LO.row v 3 1 ((sortedB N).map encI)).holds w), he, ⟨rfl, v, rfl, rfl⟩, h6', ⟨fun b hb => ?_, fun w3 ha => row_agree hrow fun b hb => ha b (List.mem_cons_of_mem _ hb)⟩, hf.mono fun b hb => .inl (by simpa [LO.blks, mapO, nub] using hb), fun b hb => .inl (List.mem_append.2 (.inl hb)), fun b hb => ?_, fun b hb hb2 => ?_⟩
  ·rcases List.mem_cons.1 hb with rfl | hb
   ·exact Nat.lt_of_lt_of_le (mapAt_lt hmp) hf.size
   ·exact LO.blk_lt hrow b hb
  ·rcases List.mem_cons.1 (mem_nub.1 hb) with rfl | hb
   ·exact .inl (by simp [LO.blks, mapO, nub])
   ·exact .inr (hnew b hb)
  ·have : b = b6 := by simpa [LO.blks] using hb
   subst this
   rcases List.mem_cons.1 (mem_nub.1 hb2) with e | hb2
   ·exact n26 e
   ·exact hnv hb2
 ·rintro r o1 o2 ⟨rfl, v, rfl, rfl⟩
  refine ⟨⟨stays_box, fun b T cells e => (by unfold mapO at e; cases e), fun c hc => by rw [List.mem_singleton.1 hc]; trivial, trivial, fun v hv => by cases hv⟩, ?_⟩; conv => whnf
  repeat refine zq ?_
  refine zr ?_; conv => whnf
  repeat refine zq ?_
  refine At.ret (At.doneB tab_ok hB _ rfl fun w' hw => ?_)
  have ho : (LO.ab (ms :: blkOf v) (fun w => (LO.row v 3 1 ((sortedB N).map encI)).holds w)).holds w' := hw.objs _ (look_mem (s := 3) rfl)
  refine ⟨[v], rfl, ⟨ho.2 w' fun _ _ => rfl, fun b hb => ?_, fun u hu => (by cases hu), rfl⟩, hw.fr⟩
  exact (hw.fresh (id := 3) rfl b (mem_nub.2 (List.mem_cons_of_mem _ hb))).elim (fun h => by cases h) _root_.id
end Go.Proofs.YtdigebokbhmfaaaGreatDoor.Ap
namespace Go.Proofs.YtdigebokbhmfaaaGreatDoor.Ap
open Go.Vc Rt Go.Bs
set_option maxHeartbeats 1000000
theorem box_i {w : World} {b : Nat} {T : TypeId} {S : List Nat} {x : Int} (hb : w.heap[b]? = some (.cells #[vI x] T (0, 0))) (hS : b ∉ S) : SlOf intT S w (hs b) [x] := by
 have hrow : (LO.row (hs b) T 1 ([x].map encI)).holds w := ⟨⟨rfl, .inr ⟨b, 0, 1, _, rfl, hb, Nat.le_refl 1, by unfold maxLen; omega, by simp [dens, encI], rfl⟩⟩, fun l hl => by rw [List.mem_singleton.1 hl]; rfl⟩
 exact SlOf.of_row (enc := fun n => [.i n]) hrow (fun b' hb' => by simp only [hs, blkOf, List.mem_singleton] at hb'; rw [hb']; exact hS) (by simp)
theorem lostq_c (h rb : Nat) (N : List Nd) (hN : NOk N) (g m : Int) (b15 b3 : Nat) (w : World) (H : HR [] w h rb N) (e15 : SlOf intT [] w (hs b15) [m]) (e3 : SlOf vT1 [] w (hs b3) [ptr h]) :
  Ans Tryz.prog 37 [vI g, ptr b15, ptr b3] (.b (decide (g = m) || beforeB N g m)) w := by
 refine calls_e [.i g, .s (.c (.e (hs b15) 1 0 0)), .s (.c (.e (hs b3) 1 0 0))] Tryz.func37 rfl rfl (Nat.le_of_ble_eq_true rfl) ⟨⟨_, _, _, rfl⟩, ⟨_, _, _, rfl⟩, trivial⟩ fun B hB => ?_
 repeat refine zq ?_
 refine zr ?_; conv => whnf
 repeat refine zq ?_
 refine zr ?_; conv => whnf
 refine ⟨[.i m], fun w' hw => e15.load (n := 1) (i := 0) (off := 0) hw.fr rfl rfl, ?_⟩; conv => whnf
 refine ⟨[.x (ptr h)], by simp only [gimp]; intro _ w' hw; exact e3.load (n := 1) (i := 0) (off := 0) hw.fr rfl rfl, ?_⟩; conv => whnf
 refine ⟨[.i m], by simp only [gimp]; intro _ w' hw; exact e15.load (n := 1) (i := 0) (off := 0) hw.fr rfl rfl, ?_⟩; conv => whnf
 refine ⟨.b (beforeB N g m), gimp_of (ans_quiet b14 (fun w' hw => before_r h rb N hN g m w' (H.ext hw.fr))), ?_⟩; conv => whnf
 repeat refine zq ?_
 refine At.ret (At.doneB tab_ok hB _ rfl fun w' hw => ⟨?_, hw.fr⟩)
 simp only [RV.den, SV.den, CV.den, bor]
def ownT (N : List Nd) (a : Int) (l : List Int) : List Int := l.filter fun m => decide ((entB N m).author = a)
theorem ownT_snoc {N : List Nd} {a : Int} {l : List Int} {k : Nat} {x : Int} (hx : l[k]? = some x) : ownT N a (l.take (k + 1)) = ownT N a (l.take k) ++ if (entB N x).author = a then [x] else [] := by
 unfold ownT; rw [take_snoc hx, List.filter_append, List.filter_cons, List.filter_nil]
 by_cases h : (entB N x).author = a
 ·rw [if_pos h, decide_eq_true h, if_pos rfl]
 ·rw [if_neg h, decide_eq_false h, if_neg (by decide)]
theorem ownT_len {N : List Nd} {a : Int} {l : List Int} {k : Nat} : (ownT N a (l.take k)).length ≤ k := by
 unfold ownT; exact Nat.le_trans (List.length_filter_le _ _) (by rw [List.length_take]; omega)
def keptT (N : List Nd) (a n : Int) (l : List Int) : List Int := l.filter fun m => !lostQ N a n m
theorem keptT_snoc {N : List Nd} {a n : Int} {l : List Int} {k : Nat} {x : Int} (hx : l[k]? = some x) : keptT N a n (l.take (k + 1)) = keptT N a n (l.take k) ++ if lostQ N a n x then [] else [x] := by
 unfold keptT; rw [take_snoc hx, List.filter_append, List.filter_cons, List.filter_nil]
 cases lostQ N a n x <;> rfl
theorem keptT_len {N : List Nd} {a n : Int} {l : List Int} {k : Nat} : (keptT N a n (l.take k)).length ≤ k := by
 unfold keptT; exact Nat.le_trans (List.length_filter_le _ _) (by rw [List.length_take]; omega)
theorem before_h (h rb : Nat) (N : List Nd) (hN : NOk N) (R : List SK) (a n : Int) (w : World) (hG : Gl w) (H : HR [] w h rb N) (hR : RgR [] w rb R) :
  Calls Tryz.prog 9 #[ptr h, vI a, vI n] w (fun e w' => ∃ i : Nat × List Nat, e = .returned (ptr i.1) ∧ (histO i.1 rb i.2 (beforeH R N a n)).holds w' ∧ (∀ b ∈ i.2, w.heap.size ≤ b) ∧ Ext w w') := by
 have hNl := hN.len
 have hml := marksB_len N
 have hsl := sortedB_len N
 refine calls_e [.x (ptr h), .i a, .i n] Tryz.func9 rfl rfl (Nat.le_of_ble_eq_true rfl) trivial fun B hB => ?_
 repeat refine zq ?_
 refine zr ?_; conv => whnf
 refine ⟨rfl, ?_⟩; conv => whnf
 intro b3; conv => whnf
 repeat refine zq ?_
 refine zr ?_; conv => whnf
 repeat refine zq ?_
 refine At.planG tab_ok mixed [(0, .box b3 27 [.x (ptr h)])] (.take 0 (.take 1 (.take 5 (.br 2 (.br 3 (.br 4 (.done) (.nob)) (.nob)) (.nob))))) (by kernel_rfl) (by kernel_rfl) ⟨rfl, trivial⟩ ?_; conv => whnf
 refine ⟨?_, trivial⟩; conv => whnf
 refine ansR_call b12 (rd1 (nopI _)) (fun w' hw => marks_r h rb N hN w' (H.ext hw.fr)) ?_
 intro vm; conv => whnf
 refine ⟨⟨⟨rfl, trivial⟩, fun w' hw => hw.fr⟩, ?_⟩; conv => whnf
 refine ⟨?_, trivial⟩; conv => whnf
 refine ansR_call b11 (rd1 (nopI _)) (fun w' hw => sorted_r h rb N hN vm w' (H.ext hw.fr) (slI _ (hw.row (id := 1) rfl) (by omega))) ?_
 intro vs; conv => whnf
 refine ⟨⟨⟨rfl, trivial⟩, fun w' hw => hw.fr⟩, ?_⟩; conv => whnf
 refine ⟨?_, trivial⟩; conv => whnf
 refine ⟨rfl, ?_⟩; conv => whnf
 refine ⟨⟨⟨rfl, trivial⟩, fun w' hw => hw.fr⟩, ?_⟩; conv => whnf
 repeat refine zq ?_
 refine At.block ?_
 refine At.loopH (fun p' : Nat × Value => { N := Tryz.f9.ntmps, sl := [(1, some (.i a)), (2, some (.i n)), (3, some (.s (.c (.p 0 b3 0)))), (7, some (.s (.c (.o 3 p'.2)))), (8, some (.x ((.slice none 0 0)))), (20, some (.s (.c (.o 2 vs)))), (21, some (.i ((sortedB N).length))), (22, some (.i p'.1))], gl := [], hp := [(3, .row p'.2 3 1 ((ownT N a ((sortedB N).take p'.1)).map encI)), (2, .row vs 3 1 ((sortedB N).map encI)), (0, .box b3 27 [.x (ptr h)])], S := [], ws := w }) (fun p' : Nat × Value => p'.1 ≤ (sortedB N).length) (fun p' : Nat × Value => (sortedB N).length - p'.1)
  (fun w' hw => ⟨(0, .slice none 0 0), Nat.zero_le _, Le.of rfl rfl ⟨rfl, rfl, rfl, rfl, rfl, rfl, congrArg (Value.int .i64) (by simp), rfl, trivial⟩, Holds.nilK hw [2, 0] rfl rfl rfl, ⟨⟨_, _, rfl⟩, ⟨_, _, _, rfl⟩, ⟨_, _, _, rfl⟩, trivial⟩, ⟨(nopI _).okH, (nopI _).okH, trivial⟩⟩) ?_
 rintro ⟨k, vo⟩ hk
 simp only at hk ⊢
 repeat refine zq ?_
 refine zr ?_; conv => whnf
 repeat refine zq ?_
 refine At.cond rfl (fun hc => At.skip ?_) (fun hc => At.exit ?_)
 ·have hlt : k < (sortedB N).length := by have := of_decide_eq_true hc; omega
  obtain ⟨x, hx⟩ : ∃ x, (sortedB N)[k]? = some x := ⟨_, List.getElem?_eq_getElem hlt⟩
  have hlt : k < (sortedB N).length := by have := of_decide_eq_true hc; omega
  have hsn := ownT_snoc (N := N) (a := a) hx
  have hol := ownT_len (N := N) (a := a) (l := sortedB N) (k := k)
  repeat refine zq ?_
  refine At.block ?_
  repeat refine zq ?_
  refine zr ?_; conv => whnf
  refine ⟨rfl, ?_⟩; conv => whnf
  refine ⟨by omega, ?_⟩; conv => whnf
  refine ⟨by (try simp only [List.length_map]); omega, ?_⟩; conv => whnf
  refine ⟨encI x, ⟨rfl, rfl, by omega, by rw [Int.toNat_natCast, List.getElem?_map, hx]; rfl⟩, ?_⟩; conv => whnf
  repeat refine zq ?_
  refine zr ?_; conv => whnf
  refine entry_call (h := h) (rb := rb) (N := N) (mk := x) hN (fun w' hw => H.ext hw.fr) ?_
  intro k4 y5 s6; conv => whnf
  intro b11; conv => whnf
  repeat refine zq ?_
  refine zr ?_; conv => whnf
  repeat refine zq ?_
  refine At.cond rfl (fun hq => ?_) (fun hq => At.skip ?_)
  ·have hqa : (entB N x).author = a := of_decide_eq_true hq
   rw [if_pos hqa] at hsn
   repeat refine zq ?_
   refine zr ?_; conv => whnf
   intro v8; conv => whnf
   refine ⟨rfl, ?_⟩; conv => whnf
   refine ⟨⟨rfl, by simp; omega⟩, ?_⟩; conv => whnf
   intro v9; conv => whnf
   repeat refine zq ?_
   refine zr ?_; conv => whnf
   refine ⟨⟨by omega, by omega⟩, ?_⟩; conv => whnf
   refine At.nextH fun w' hw => ⟨(k + 1, v9), by simp only; omega, by simp only; omega, Le.of rfl rfl ⟨rfl, rfl, rfl, rfl, rfl, rfl, rfl, rfl, trivial⟩, hw.keep [3, 2, 0] ?_ rfl rfl, ⟨⟨_, _, rfl⟩, ⟨_, _, _, rfl⟩, ⟨_, _, _, rfl⟩, trivial⟩, ⟨(nopI _).okH, (nopI _).okH, trivial⟩⟩
   show [(3, LO.row v9 3 1 _), (2, LO.row vs 3 1 _), (0, LO.box _ _ _)] = [(3, LO.row v9 3 1 _), (2, LO.row vs 3 1 _), (0, LO.box _ _ _)]
   rw [hsn, List.map_append]
   rfl
  ·have hqa : ¬ (entB N x).author = a := of_decide_eq_false hq
   rw [if_neg hqa, List.append_nil] at hsn
   repeat refine zq ?_
   refine zr ?_; conv => whnf
   refine ⟨⟨by omega, by omega⟩, ?_⟩; conv => whnf
   refine At.nextH fun w' hw => ⟨(k + 1, vo), by simp only; omega, by simp only; omega, Le.of rfl rfl ⟨rfl, rfl, rfl, rfl, rfl, rfl, rfl, rfl, trivial⟩, hw.keep [3, 2, 0] (by simp only [hsn]; rfl) rfl rfl, ⟨⟨_, _, rfl⟩, ⟨_, _, _, rfl⟩, ⟨_, _, _, rfl⟩, trivial⟩, ⟨(nopI _).okH, (nopI _).okH, trivial⟩⟩
 ·have hge : k = (sortedB N).length := by have := of_decide_eq_false hc; omega
  subst hge
  rw [List.take_length]
  have hoe : ownT N a (sortedB N) = ownOf N a := rfl
  have hol : (ownOf N a).length ≤ (sortedB N).length := List.length_filter_le _ _
  rw [hoe]
  have hcut : (((ownOf N a).length : Int) - min (max n 0) ((ownOf N a).length : Int)) = (cutO N a n : Int) := by unfold cutO; omega
  have hcl : cutO N a n ≤ (ownOf N a).length := by unfold cutO; omega
  repeat refine zq ?_
  refine zr ?_; conv => whnf
  refine ⟨rfl, ?_⟩; conv => whnf
  refine ⟨rfl, ?_⟩; conv => whnf
  refine ⟨by simp only [List.length_map]; exact ⟨by omega, by omega⟩, ?_⟩; conv => whnf
  refine ⟨rfl, ?_⟩; conv => whnf
  refine ⟨by simp only [List.length_map]; omega, ?_⟩; conv => whnf
  refine ⟨by simp only [List.length_map]; omega, ?_⟩; conv => whnf
  refine ⟨.inl (by simp only [List.length_map]; omega), ?_⟩; conv => whnf
  repeat refine zq ?_
  refine zr ?_; conv => whnf
  refine ansR_call b12 (rd1 (nopI _)) (fun w' hw => marks_r h rb N hN w' (H.ext hw.fr)) ?_
  intro vk; conv => whnf
  refine ⟨rfl, ?_⟩; conv => whnf
  repeat refine zq ?_
  refine At.block ?_
  refine At.loopH (fun p' : Nat × Value => { N := Tryz.f9.ntmps, sl := [(3, some (.s (.c (.p 0 b3 0)))), (8, some (.s (.c (.o 5 p'.2)))), (13, some (.x ((subV vo 1 (cutO N a n) (ownOf N a).length)))), (52, some (.s (.c (.o 4 vk)))), (53, some (.i ((marksB N).length))), (54, some (.i p'.1))], gl := [], hp := [(5, .row p'.2 3 1 ((keptT N a n ((marksB N).take p'.1)).map encI)), (4, .row vk 3 1 ((marksB N).map encI)), (3, .row vo 3 1 ((ownOf N a).map encI)), (0, .box b3 27 [.x (ptr h)])], S := [], ws := w }) (fun p' : Nat × Value => p'.1 ≤ (marksB N).length) (fun p' : Nat × Value => (marksB N).length - p'.1)
   (fun w' hw => ⟨(0, .slice none 0 0), Nat.zero_le _, Le.of rfl rfl ⟨rfl, rfl, by simp only [List.length_map, hcut]; rfl, rfl, congrArg (Value.int .i64) (by simp), rfl, trivial⟩, Holds.nilK hw [4, 3, 0] rfl rfl rfl, ⟨⟨_, _, rfl⟩, ⟨_, _, _, rfl⟩, ⟨_, _, _, rfl⟩, trivial⟩, ⟨(nopI _).okH, (nopI _).okH, (nopI _).okH, trivial⟩⟩) ?_
  rintro ⟨k, vl⟩ hk
  simp only at hk ⊢
  repeat refine zq ?_
  refine zr ?_; conv => whnf
  repeat refine zq ?_
  refine At.cond rfl (fun hc => At.skip ?_) (fun hc => At.exit ?_)
  ·have hlt : k < (marksB N).length := by have := of_decide_eq_true hc; omega
   obtain ⟨x, hx⟩ : ∃ x, (marksB N)[k]? = some x := ⟨_, List.getElem?_eq_getElem hlt⟩
   have hlt : k < (marksB N).length := by have := of_decide_eq_true hc; omega
   have hsn := keptT_snoc (N := N) (a := a) (n := n) hx
   have hkl := keptT_len (N := N) (a := a) (n := n) (l := marksB N) (k := k)
   repeat refine zq ?_
   refine At.block ?_
   repeat refine zq ?_
   refine zr ?_; conv => whnf
   refine ⟨rfl, ?_⟩; conv => whnf
   refine ⟨by omega, ?_⟩; conv => whnf
   refine ⟨by (try simp only [List.length_map]); omega, ?_⟩; conv => whnf
   refine ⟨encI x, ⟨rfl, rfl, by omega, by rw [Int.toNat_natCast, List.getElem?_map, hx]; rfl⟩, ?_⟩; conv => whnf
   intro b15; conv => whnf
   repeat refine zq ?_
   refine zr ?_; conv => whnf
   repeat refine zq ?_
   refine zr ?_; conv => whnf
   refine ans_call (r := .b (lostQ N a n x)) b38 rfl (fun w' hw => containsF_c (goneB N a n) [] _ w' (by
    have hp := SlOf.part (slI (ownOf N a) (hw.row (id := 3) rfl) (by omega)) (lo := (cutO N a n : Int)) (hi := ((ownOf N a).length : Int)) (by omega) (by omega) (by omega)
    rw [Int.toNat_natCast, Int.toNat_natCast, List.take_length] at hp
    exact hp) 37 #[ptr b15, ptr b3] (fun g => decide (g = x) || beforeB N g x) b37 (fun g hg w'' hx' => lostq_c h rb N hN g x b15 b3 w'' (H.ext (hw.fr.trans hx')) ((box_i (T := 3) (hw.box (id := 6) rfl) nilS).ext hx') ((box_v (T := 27) (hw.box (id := 0) rfl) nilS).ext hx'))) ?_
   conv => whnf
   repeat refine zq ?_
   refine At.cond rfl (fun hq => ?_) (fun hq => At.skip ?_)
   ·have hql : lostQ N a n x = false := by simpa using hq
    rw [hql, if_neg (by decide)] at hsn
    repeat refine zq ?_
    refine zr ?_; conv => whnf
    intro v8; conv => whnf
    refine ⟨rfl, ?_⟩; conv => whnf
    refine ⟨⟨rfl, by simp; omega⟩, ?_⟩; conv => whnf
    intro v9; conv => whnf
    repeat refine zq ?_
    refine zr ?_; conv => whnf
    refine ⟨⟨by omega, by omega⟩, ?_⟩; conv => whnf
    refine At.nextH fun w' hw => ⟨(k + 1, v9), by simp only; omega, by simp only; omega, Le.of rfl rfl ⟨rfl, rfl, rfl, rfl, rfl, rfl, trivial⟩, hw.keep [5, 4, 3, 0] ?_ rfl rfl, ⟨⟨_, _, rfl⟩, ⟨_, _, _, rfl⟩, ⟨_, _, _, rfl⟩, trivial⟩, ⟨(nopI _).okH, (nopI _).okH, (nopI _).okH, trivial⟩⟩
    show [(5, LO.row v9 3 1 _), (4, LO.row vk 3 1 _), (3, LO.row vo 3 1 _), (0, LO.box _ _ _)] = [(5, LO.row v9 3 1 _), (4, LO.row vk 3 1 _), (3, LO.row vo 3 1 _), (0, LO.box _ _ _)]
    rw [hsn, List.map_append]
    rfl
   ·have hql : lostQ N a n x = true := by simpa using hq
    rw [hql, if_pos rfl, List.append_nil] at hsn
    repeat refine zq ?_
    refine zr ?_; conv => whnf
    refine ⟨⟨by omega, by omega⟩, ?_⟩; conv => whnf
    refine At.nextH fun w' hw => ⟨(k + 1, vl), by simp only; omega, by simp only; omega, Le.of rfl rfl ⟨rfl, rfl, rfl, rfl, rfl, rfl, trivial⟩, hw.keep [5, 4, 3, 0] (by simp only [hsn]; rfl) rfl rfl, ⟨⟨_, _, rfl⟩, ⟨_, _, _, rfl⟩, ⟨_, _, _, rfl⟩, trivial⟩, ⟨(nopI _).okH, (nopI _).okH, (nopI _).okH, trivial⟩⟩
  ·have hge : k = (marksB N).length := by have := of_decide_eq_false hc; omega
   subst hge
   rw [List.take_length]
   have hke : keptT N a n (marksB N) = keptB N a n := rfl
   have hkl : (keptB N a n).length ≤ (marksB N).length := List.length_filter_le _ _
   rw [hke]
   repeat refine zq ?_
   refine zr ?_; conv => whnf
   refine newAb_call (fun i : Nat × List Nat => .x (ptr i.1)) (fun i => i.2) (fun i => HistQ i.1 rb i.2 (beforeH R N a n)) b8 (fun _ => rfl) (fun w' hw => restrict_r h rb N hN R (keptB N a n) vl w' (hG.ext hw.fr) (H.ext hw.fr) (hR.fr hw.fr) (slI _ (hw.row (id := 5) rfl) (by omega)) (by omega)) ?_
   rintro ⟨h2, B2⟩
   conv => whnf
   repeat refine zq ?_
   refine At.ret (At.doneB tab_ok hB _ rfl fun w' hw => ⟨(h2, B2), rfl, hw.objs _ (look_mem (s := 6) rfl), fun b hb => (hw.fresh (id := 6) rfl b (mem_nub.2 hb)).elim (fun h => by cases h) _root_.id, hw.fr⟩)
end Go.Proofs.YtdigebokbhmfaaaGreatDoor.Ap
