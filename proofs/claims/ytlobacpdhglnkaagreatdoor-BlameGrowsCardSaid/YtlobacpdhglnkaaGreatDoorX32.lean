/- Texts that the law leans on. -/
import Derived.Test.YtlobacpdhglnkaaGreatDoorX30
import Derived.Test.YtlobacpdhglnkaaGreatDoorX31
import Derived.Test.YtlobacpdhglnkaaGreatDoorX19
import Derived.Test.YtlobacpdhglnkaaGreatDoorRows
import Derived.LaidMore
import Derived.MakeChecks
import Derived.Lib.LaidTab
import Derived.ChangeArms
import Derived.OpenShut
set_option linter.unusedVariables false
set_option linter.unusedSimpArgs false
namespace Go.Proofs.YtlobacpdhglnkaaGreatDoor
open Go.Vc Rt Go.Bs
theorem grow_c (n : Int) (w : World) (h0 : 0 ≤ n) (h1 : n ≤ 1000000) : AnsR Tryz.prog 91 [.slice none 0 0, vI n] [.row 50 3 []] w := by
 refine calls_plainB [.x (.slice none 0 0), .i n] Tryz.func91 rfl rfl (Nat.le_of_ble_eq_true rfl) rfl fun B hB => ?_
 refine At.reshapeH fun w' hw => ⟨{ N := Tryz.f91.ntmps, sl := [(0, some (.s (.c (.o 0 (.slice none 0 0))))), (1, some (.i n))], gl := [], hp := [(0, .row (.slice none 0 0) 50 3 [])], S := [], ws := w }, Le.of rfl rfl ⟨rfl, rfl, trivial⟩, hw.nil rfl rfl rfl, ⟨⟨_, _, _, rfl⟩, trivial⟩, ⟨(nopS []).okH, trivial⟩, ?_⟩
 repeat refine zq ?_
 refine zr ?_; conv => whnf
 repeat refine zq ?_
 refine zr ?_; conv => whnf
 repeat refine zq ?_
 refine At.cond rfl (fun hq => ?_) (fun hq => At.skip ?_)
 ·have := of_decide_eq_true hq; omega
 repeat refine zq ?_
 refine zr ?_; conv => whnf
 refine ⟨rfl, ?_⟩; conv => whnf
 refine ⟨rfl, ?_⟩; conv => whnf
 refine ⟨⟨by simp [scap], by simp [scap]⟩, ?_⟩; conv => whnf
 refine ⟨⟨by simp [scap]; omega, by simp [scap]; omega⟩, ?_⟩; conv => whnf
 repeat refine zq ?_
 refine zr ?_; conv => whnf
 repeat refine zq ?_
 refine At.cond rfl (fun hq => ?_) (fun hq => ?_)
 ·have hpos : 0 < n := by have := of_decide_eq_true hq; simp [scap] at this; exact this
  repeat refine zq ?_
  refine zr ?_; conv => whnf
  refine ⟨rfl, ?_⟩; conv => whnf
  refine ⟨rfl, ?_⟩; conv => whnf
  refine ⟨by simp [scap], ?_⟩; conv => whnf
  refine ⟨by simp [scap], ?_⟩; conv => whnf
  refine ⟨.inr (Int.le_refl _), ?_⟩; conv => whnf
  refine ⟨[], ⟨fun w' hw => ⟨fun l hl => (by cases hl), fun l hl => (by cases hl), .inr ⟨by simp [subV, scap], rfl⟩⟩, fun l hl => (by cases hl), by simp [scap]; exact hpos, by simp [subV, scap]; exact hpos, by simp [scap]; omega⟩, ?_⟩; conv => whnf
  intro v1; conv => whnf
  refine ⟨rfl, ?_⟩; conv => whnf
  refine ⟨rfl, ?_⟩; conv => whnf
  refine ⟨by simp, ?_⟩; conv => whnf
  refine ⟨by simp, ?_⟩; conv => whnf
  refine ⟨.inl (by simp; omega), ?_⟩; conv => whnf
  repeat refine zq ?_
  refine zr ?_; conv => whnf
  repeat refine zq ?_
  refine At.ret (At.doneB tab_ok hB _ rfl fun w' hw => ?_)
  have hr := row_prefix (hw.row (id := 1) rfl) (n := 0) (by simp)
  refine ⟨[subV v1 3 0 0], rfl, ⟨hr, fun b hb => ?_, fun u hu => (by cases hu), rfl⟩, hw.fr⟩
  rcases hw.fresh (id := 1) rfl b (blkOf_sub b hb) with h | h
  ·cases h
  ·exact h
 ·refine At.skip ?_
  repeat refine zq ?_
  refine zr ?_; conv => whnf
  repeat refine zq ?_
  refine At.ret (At.doneB tab_ok hB _ rfl fun w' hw => ansR_row (id := 0) hw rfl rfl rfl)
def sumLen (xss : List (List Span)) : Nat := (xss.map List.length).sum
theorem concat_c (xss : List (List Span)) (v : Value) (w : World) (h : SlOf (slT spT) [] w v xss) (hN : xss.length ≤ 1000) (hS : sumLen xss ≤ 1000000) : AnsR Tryz.prog 43 [v] [.row 50 3 (xss.flatten.map encS)] w := by
 have hl := h.len
 have hflat : ∀ k, (xss.take k).flatten.length ≤ 1000000 := fun k => by
  rw [List.length_flatten]
  refine Nat.le_trans ?_ hS
  unfold sumLen
  conv => rhs; rw [← List.take_append_drop k xss]
  rw [List.map_append, List.sum_append]
  omega
 have hst : ∀ {k : Nat} {xs : List Span}, xss[k]? = some xs → (xss.take (k + 1)).flatten = (xss.take k).flatten ++ xs := fun {k xs} hx => by rw [List.take_add_one, hx]; simp
 refine calls_plainB [.x v] Tryz.func43 rfl rfl (Nat.le_of_ble_eq_true rfl) rfl fun B hB => ?_
 repeat refine zq ?_
 refine zr ?_; conv => whnf
 repeat refine zq ?_
 refine zr ?_; conv => whnf
 repeat refine zq ?_
 refine zr ?_; conv => whnf
 refine ⟨h.sl, ?_⟩; conv => whnf
 repeat refine zq ?_
 refine At.block ?_
 refine At.loopH (fun k : Nat => { N := Tryz.f43.ntmps, sl := [(0, some (.x v)), (3, some (.i ((xss.take k).flatten.length))), (9, some (.x v)), (10, some (.i xss.length)), (11, some (.i k))], gl := [], hp := [], S := [], ws := w }) (fun k : Nat => k ≤ xss.length) (fun k : Nat => xss.length - k)
  (fun w' hw => ⟨0, Nat.zero_le _, Le.of rfl rfl ⟨rfl, rfl, rfl, congrArg (Value.int .i64) (by rw [hl]), rfl, trivial⟩, hw.same rfl rfl rfl, trivial, trivial⟩) ?_
 intro k hk
 repeat refine zq ?_
 refine zr ?_; conv => whnf
 repeat refine zq ?_
 refine At.cond rfl (fun hc => At.skip ?_) (fun hc => At.exit ?_)
 ·have hltxs : k < xss.length := by have := of_decide_eq_true hc; (try simp only [List.length_map] at this); omega
  obtain ⟨xs, hxs⟩ : ∃ x, xss[k]? = some x := ⟨_, List.getElem?_eq_getElem hltxs⟩
  obtain ⟨_, ⟨u, rfl, hu⟩, hc2⟩ := h.at hxs
  have hf1 := hflat (k + 1)
  rw [hst hxs, List.length_append] at hf1
  repeat refine zq ?_
  refine At.block ?_
  repeat refine zq ?_
  refine zr ?_; conv => whnf
  refine ⟨by omega, ?_⟩; conv => whnf
  refine ⟨by omega, ?_⟩; conv => whnf
  refine ⟨[.x u], fun w' hw => hc2 w' hw.fr, ?_⟩; conv => whnf
  repeat refine zq ?_
  refine zr ?_; conv => whnf
  refine ⟨hu.sl, ?_⟩; conv => whnf
  refine ⟨by rw [hu.len]; exact ⟨by omega, by omega⟩, ?_⟩; conv => whnf
  repeat refine zq ?_
  refine zr ?_; conv => whnf
  repeat refine zq ?_
  refine At.cond rfl (fun hq => ?_) (fun hq => At.skip ?_)
  ·have := of_decide_eq_true hq; rw [hu.len] at this; omega
  repeat refine zq ?_
  refine zr ?_; conv => whnf
  refine ⟨⟨by omega, by omega⟩, ?_⟩; conv => whnf
  refine At.nextH fun w' hw => ⟨k + 1, by omega, by omega, Le.of rfl rfl ⟨rfl, congrArg (Value.int .i64) (by rw [hu.len, hst hxs]; simp), rfl, rfl, rfl, trivial⟩, hw.keep [] rfl rfl rfl, trivial, trivial⟩
 have hge : k = xss.length := by have := of_decide_eq_false hc; omega
 subst hge
 rw [List.take_length]
 have hfl := hflat xss.length
 rw [List.take_length] at hfl
 repeat refine zq ?_
 refine zr ?_; conv => whnf
 refine ansR_call b91 (rd1 (nopS [])) (fun w' hw => grow_c _ w' (by omega) (by omega)) ?_
 intro v1; conv => whnf
 repeat refine zq ?_
 refine zr ?_; conv => whnf
 refine ⟨h.sl, ?_⟩; conv => whnf
 repeat refine zq ?_
 refine At.block ?_
 refine At.loopH (fun p : Nat × Value => { N := Tryz.f43.ntmps, sl := [(0, some (.x v)), (6, some (.s (.c (.o 0 p.2)))), (25, some (.x v)), (26, some (.i xss.length)), (27, some (.i p.1))], gl := [], hp := [(0, .row p.2 50 3 ((xss.take p.1).flatten.map encS))], S := [], ws := w }) (fun p : Nat × Value => p.1 ≤ xss.length) (fun p : Nat × Value => xss.length - p.1)
  (fun w' hw => ⟨(0, v1), Nat.zero_le _, Le.of rfl rfl ⟨rfl, rfl, rfl, congrArg (Value.int .i64) (by rw [hl]), rfl, trivial⟩, hw.keep [0] rfl rfl rfl, ⟨⟨_, _, _, rfl⟩, trivial⟩, ⟨(nopS _).okH, trivial⟩⟩) ?_
 rintro ⟨k, vo⟩ hk
 simp only at hk ⊢
 repeat refine zq ?_
 refine zr ?_; conv => whnf
 repeat refine zq ?_
 refine At.cond rfl (fun hc => At.skip ?_) (fun hc => At.exit ?_)
 ·have hltxs : k < xss.length := by have := of_decide_eq_true hc; (try simp only [List.length_map] at this); omega
  obtain ⟨xs, hxs⟩ : ∃ x, xss[k]? = some x := ⟨_, List.getElem?_eq_getElem hltxs⟩
  obtain ⟨_, ⟨u, rfl, hu⟩, hc2⟩ := h.at hxs
  have hf1 := hflat (k + 1)
  have hst1 := hst hxs
  rw [hst1, List.length_append] at hf1
  generalize (xss.take k).flatten = out at *
  repeat refine zq ?_
  refine At.block ?_
  repeat refine zq ?_
  refine zr ?_; conv => whnf
  refine ⟨by omega, ?_⟩; conv => whnf
  refine ⟨by omega, ?_⟩; conv => whnf
  refine ⟨[.x u], fun w' hw => hc2 w' hw.fr, ?_⟩; conv => whnf
  repeat refine zq ?_
  refine zr ?_; conv => whnf
  refine ⟨xs.map encS, ⟨fun w' hw => (hu.fr hw.fr).src (fun _ => rfl), nopS _⟩, ?_⟩; conv => whnf
  refine ⟨⟨rfl, by simp; omega⟩, ?_⟩; conv => whnf
  intro v2; conv => whnf
  repeat refine zq ?_
  refine zr ?_; conv => whnf
  refine ⟨⟨by omega, by omega⟩, ?_⟩; conv => whnf
  refine At.nextH fun w' hw => ⟨(k + 1, v2), by simp only; omega, by simp only; omega, Le.of rfl rfl ⟨rfl, rfl, rfl, rfl, rfl, trivial⟩, hw.keep [0] (by rw [hst1, List.map_append]; rfl) rfl rfl, ⟨⟨_, _, _, rfl⟩, trivial⟩, ⟨(nopS _).okH, trivial⟩⟩
 have hge : k = xss.length := by have := of_decide_eq_false hc; omega
 subst hge
 rw [List.take_length]
 repeat refine zq ?_
 refine zr ?_; conv => whnf
 repeat refine zq ?_
 refine At.ret (At.doneB tab_ok hB _ rfl fun w' hw => ansR_row (id := 0) hw rfl rfl rfl)
theorem entUnion_c (a b : List Span) (S S' : List Nat) (v u : Value) (w : World) (h : SlOf spT S w v a) (h' : SlOf spT S' w u b) (hN : a.length + b.length ≤ 1000000) : AnsR Tryz.prog 15 [v, u] [.row 50 3 ((unionS' a b).map encS)] w := by
 replace h := h.avoid (S' := []) (fun b hb => by cases hb)
 replace h' := h'.avoid (S' := []) (fun b hb => by cases hb)
 refine calls_plainB [.x v, .x u] Tryz.func15 rfl rfl (Nat.le_of_ble_eq_true rfl) rfl fun B hB => ?_
 repeat refine zq ?_
 refine zr ?_; conv => whnf
 repeat refine zq ?_
 refine zr ?_; conv => whnf
 refine ⟨h.sl.one, ?_⟩; conv => whnf
 refine ⟨h'.sl.one, ?_⟩; conv => whnf
 intro v1; conv => whnf
 refine ansR_call b43 (rd1 (nopS _)) (fun w' hw => concat_c [a, b] v1 w' (SlOf.of_rows (hw.row (id := 0) rfl) (fun _ _ => nilS) (by simp) ⟨⟨[.x v], rfl, v, rfl, h.fr hw.fr⟩, ⟨[.x u], rfl, u, rfl, h'.fr hw.fr⟩, trivial⟩) (by simp) (by simp [sumLen]; omega)) ?_
 intro v2; conv => whnf
 refine ansR_call b37 (rd1 (nopS _)) (fun w' hw => norm_c _ [] v2 w' (slS _ (hw.row (id := 1) rfl) (by simp; omega)) (by simp; omega)) ?_
 intro v3; conv => whnf
 repeat refine zq ?_
 refine At.ret (At.doneB tab_ok hB _ rfl fun w' hw => ansR_row (id := 2) hw (by simp [unionS']; rfl) rfl rfl)
end Go.Proofs.YtlobacpdhglnkaaGreatDoor
namespace Go.Proofs.YtlobacpdhglnkaaGreatDoor
open Go.Vc Rt Go.Bs
set_option maxHeartbeats 1000000
theorem _root_.Go.Vc.Holds.nilK {st st' : St} {w : World} (h : Holds st w) (ids : List Nat) {id E size : Nat} (h1 : st'.hp = (id, .row (.slice none 0 0) E size []) :: keepIds ids st.hp) (h2 : st'.S = st.S) (h3 : st'.ws = st.ws) : Holds st' w := by
 have h' : Holds { st with hp := keepIds ids st.hp } w := h.keep ids rfl rfl rfl
 exact h'.nil (st' := st') h1 h2 h3
theorem allRow_snoc {N : List Nd} {a : Int} {pre : List Int} {j : Nat} {b : Int} {all : List Span} (hb : pre[j]? = some b) : allRow N a (pre.take (j + 1)) all = if pairC N a b then unionS' (allRow N a (pre.take j) all) (common (entB N a).spans (entB N b).spans) else allRow N a (pre.take j) all := by
 rw [take_snoc hb]; unfold allRow; rw [List.foldl_append]; rfl
theorem grows_c (hsmall : ∀ w, Gl w → Ans Tryz.prog 4 [] (.b true) w) (keys : List Int) (xs : List Post) (n : Int) (kv : Value) (liars seed : Int) (v : Value) (w : World) (hG : Gl w) (hk : SlOf intT [] w kv keys) (h : SlOf postT [] w v xs) :
  Ans Tryz.prog 3 [vSt kv liars seed, v, vI n] (.b true) w := by
 have hln := h.len
 refine calls_e [.s (.agg (encSt kv liars seed)), .x v, .i n] Tryz.func3 rfl rfl (Nat.le_of_ble_eq_true rfl) trivial fun B hB => ?_
 repeat refine zq ?_
 refine zr ?_; conv => whnf
 refine ⟨hk.one, ?_⟩; conv => whnf
 intro b0; conv => whnf
 repeat refine zq ?_
 refine zr ?_; conv => whnf
 refine ans_call b4 rfl (fun w' hw => hsmall w' (hG.ext hw.fr)) ?_; conv => whnf
 repeat refine zq ?_
 refine zr ?_; conv => whnf
 refine ans_call b5 rfl (fun w' hw => few42_c keys xs 24 kv liars seed v w' (hk.fr hw.fr) (h.fr hw.fr)) ?_; conv => whnf
 refine ⟨gimp_of h.sl, ?_⟩; conv => whnf
 repeat refine zq ?_
 refine At.cond rfl (fun hq => ?_) (fun hq => At.skip ?_)
 ·repeat refine zq ?_
  refine zr ?_; conv => whnf
  repeat refine zq ?_
  refine At.ret (At.doneB tab_ok hB _ rfl fun w' hw => ⟨rfl, hw.fr⟩)
 have hfew : few42 keys xs 24 = true := by
  revert hq
  cases few42 keys xs 24 <;> simp
 have hn0 : 0 ≤ n := by
  rw [hfew] at hq
  by_cases e : n < 0
  ·simp [e] at hq
  ·omega
 have hn1 : n ≤ xs.length := by
  rw [hfew] at hq
  by_cases e : slen v < n
  ·simp [e] at hq
  ·omega
 clear hq
 obtain ⟨hl24, hP⟩ := few_spec hfew
 have hkeys : ∀ p ∈ xs, iR p.key := fun p hp => by
  obtain ⟨i, hi, rfl⟩ := List.getElem_of_mem hp
  obtain ⟨l, ⟨_, _, _, _, _, _, hk⟩, _⟩ := h.elem i _ (List.getElem?_eq_getElem hi)
  exact hk
 have hNg : NOk (knL xs).2 := kn_ok xs (by omega) fun p hp => ⟨hP p hp, hkeys p hp⟩
 have hNh : NOk (knL (xs.take n.toNat)).2 := kn_ok _ (by rw [List.length_take]; omega) fun p hp => ⟨hP p (List.mem_of_mem_take hp), hkeys p (List.mem_of_mem_take hp)⟩
 have hSg : Sm (knL xs).2 := kn_sm (by omega)
 have hSh : Sm (knL (xs.take n.toNat)).2 := kn_sm (by rw [List.length_take]; omega)
 obtain ⟨M, hM⟩ := known_pre xs n.toNat
 have hmin := minus_lacks (knL (xs.take n.toNat)).2 M
 rw [← hM] at hmin
 have hsub := h.begin (hi := n) (k := n.toNat) (by omega) (by omega)
 have hla := lacks_short hSh
 have hlb := lacks_short hSg
 have hnorm := normal_lacks (knL xs).2
 have hall := all_eq (knL xs).2
 have hatl := fun k hk => allTo_len hSg (marksB (knL xs).2) k hk
 have hml := marksB_len (knL xs).2
 have hN24 := hSg.len
 repeat refine zq ?_
 refine zr ?_; conv => whnf
 refine ⟨h.sl, ?_⟩; conv => whnf
 refine ⟨by omega, ?_⟩; conv => whnf
 refine ⟨by omega, ?_⟩; conv => whnf
 refine ⟨by omega, ?_⟩; conv => whnf
 refine newAb_call (fun i : Nat × Nat × List Nat => .x (ptr i.1)) (fun i => i.2.2) (fun i => HistQ i.1 i.2.1 i.2.2 (knL (xs.take n.toNat)).2) b6 (fun _ => rfl) (fun w' hw => known_c (xs.take n.toNat) (subV v 16 0 n) w' (hG.ext hw.fr) (hsub.fr hw.fr) (by rw [List.length_take]; omega) (fun p hp => hP p (List.mem_of_mem_take hp))) ?_
 rintro ⟨h1, rb1, B1⟩
 conv => whnf
 repeat refine zq ?_
 refine zr ?_; conv => whnf
 refine newAb_call (fun i : Nat × Nat × List Nat => .x (ptr i.1)) (fun i => i.2.2) (fun i => HistQ i.1 i.2.1 i.2.2 (knL xs).2) b6 (fun _ => rfl) (fun w' hw => known_c xs v w' (hG.ext hw.fr) (h.fr hw.fr) (by omega) hP) ?_
 rintro ⟨g, rb, B2⟩
 conv => whnf
 generalize (knL (xs.take n.toNat)).2 = N1 at *
 generalize (knL xs).2 = N at *
 repeat refine zq ?_
 refine zr ?_; conv => whnf
 repeat refine zq ?_
 refine At.cond (t := false) rfl (fun hq => by cases hq) (fun _ => At.skip ?_)
 repeat refine zq ?_
 refine zr ?_; conv => whnf
 refine ansR_call b7 (rd1 (nopS _)) (fun w' hw => lacks_r h1 rb1 N1 hNh hSh w' (histO_hr (hw.objs _ (look_mem (s := 1) rfl)) hNh (fun b hb => by cases hb))) ?_
 intro va; conv => whnf
 repeat refine zq ?_
 refine zr ?_; conv => whnf
 refine ansR_call b7 (rd1 (nopS _)) (fun w' hw => lacks_r g rb N hNg hSg w' (histO_hr (hw.objs _ (look_mem (s := 2) rfl)) hNg (fun b hb => by cases hb))) ?_
 intro vb; conv => whnf
 repeat refine zq ?_
 refine zr ?_; conv => whnf
 refine ansR_call b8 (rd1 (nopS _)) (fun w' hw => minus_c (lacksB N1) (lacksB N) [] [] va vb w' (slS _ (hw.row (id := 3) rfl) (by omega)) (slS _ (hw.row (id := 4) rfl) (by omega)) (by omega) (by omega)) ?_
 intro vm; conv => whnf
 refine ⟨rfl, ?_⟩; conv => whnf
 refine ⟨.i (count (lacksB N)), gimp_of (ans_quiet b9 (fun w' hw => lack_r g rb N hNg hSg w' (histO_hr (hw.objs _ (look_mem (s := 2) rfl)) hNg (fun b hb => by cases hb)))), ?_⟩; conv => whnf
 refine ⟨.i (count (lacksB N)), gimp_of (ans_quiet b10 (fun w' hw => count_c (lacksB N) [] vb w' (slS _ (hw.row (id := 4) rfl) (by omega)) (by omega))), ?_⟩; conv => whnf
 refine ⟨.b (normal (lacksB N)), gimp_of (ans_quiet b11 (fun w' hw => normal_c (lacksB N) [] vb w' (slS _ (hw.row (id := 4) rfl) (by omega)))), ?_⟩; conv => whnf
 repeat refine zq ?_
 refine At.cond rfl (fun hq => ?_) (fun _ => At.skip ?_)
 ·exfalso
  simp [hmin, hnorm] at hq
 repeat refine zq ?_
 refine zr ?_; conv => whnf
 refine ansR_call b12 (rd1 (nopI _)) (fun w' hw => marks_r g rb N hNg w' (histO_hr (hw.objs _ (look_mem (s := 2) rfl)) hNg (fun b hb => by cases hb))) ?_
 intro vk; conv => whnf
 repeat refine zq ?_
 refine zr ?_; conv => whnf
 repeat refine zq ?_
 refine zr ?_; conv => whnf
 repeat refine zq ?_
 refine At.block ?_
 refine At.loopH (fun p' : Nat × Value => { N := Tryz.f3.ntmps, sl := [(7, some (.b true)), (9, some (.x ((ptr g)))), (11, some (.s (.c (.o 4 vb)))), (12, some (.s (.c (.o 6 vk)))), (13, some (.s (.c (.o 7 p'.2)))), (14, some (.i p'.1))], gl := [], hp := [(7, .row p'.2 50 3 ((allTo N (marksB N) p'.1).map encS)), (6, .row vk 3 1 ((marksB N).map encI)), (4, .row vb 50 3 ((lacksB N).map encS)), (2, histO g rb B2 N)], S := [], ws := w }) (fun p' : Nat × Value => p'.1 ≤ (marksB N).length) (fun p' : Nat × Value => (marksB N).length - p'.1)
  (fun w' hw => ⟨(0, .slice none 0 0), Nat.zero_le _, Le.of rfl rfl ⟨rfl, rfl, rfl, rfl, rfl, rfl, trivial⟩, Holds.nilK hw [6, 4, 2] rfl rfl rfl, ⟨⟨_, _, _, rfl⟩, ⟨_, _, _, rfl⟩, ⟨_, _, _, rfl⟩, trivial⟩, ⟨(nopS _).okH, (nopI _).okH, (nopS _).okH, trivial⟩⟩) ?_
 rintro ⟨j, vo⟩ hi
 simp only at hi ⊢
 repeat refine zq ?_
 refine zr ?_; conv => whnf
 refine ⟨rfl, ?_⟩; conv => whnf
 repeat refine zq ?_
 refine At.cond rfl (fun hc => At.skip ?_) (fun hc => At.exit ?_)
 ·have hlt : j < (marksB N).length := by have := of_decide_eq_true hc; simp only [List.length_map] at this; omega
  obtain ⟨x, hx⟩ : ∃ x, (marksB N)[j]? = some x := ⟨_, List.getElem?_eq_getElem hlt⟩
  have hxD : (marksB N).getD j 0 = x := by rw [List.getD_eq_getElem?_getD, hx]; rfl
  have hatl1 := hatl j (by omega)
  have hik : j * 24 ≤ 23 * 24 := Nat.mul_le_mul_right _ (by omega)
  have hsa := ent_sp hSg x
  have hto : allTo N (marksB N) (j + 1) = allRow N x ((marksB N).take j) (allTo N (marksB N) j) := by
   show allRow N ((marksB N).getD j 0) _ _ = _
   rw [hxD]
  generalize allTo N (marksB N) j = all at hatl1 hto ⊢
  repeat refine zq ?_
  refine At.block ?_
  repeat refine zq ?_
  refine zr ?_; conv => whnf
  refine ⟨rfl, ?_⟩; conv => whnf
  refine ⟨by omega, ?_⟩; conv => whnf
  refine ⟨by (try simp only [List.length_map]); omega, ?_⟩; conv => whnf
  refine ⟨encI x, ⟨rfl, rfl, by omega, by rw [Int.toNat_natCast, List.getElem?_map, hx]; rfl⟩, ?_⟩; conv => whnf
  refine entry_call (h := g) (rb := rb) (N := N) (mk := x) hNg (fun w' hw => histO_hr (hw.objs _ (look_mem (s := 2) rfl)) hNg (fun b hb => by cases hb)) ?_
  intro kx yx sx; conv => whnf
  intro bx; conv => whnf
  repeat refine zq ?_
  refine zr ?_; conv => whnf
  repeat refine zq ?_
  refine At.block ?_
  refine At.loopH (fun p' : Nat × Value => { N := Tryz.f3.ntmps, sl := [(7, some (.b true)), (9, some (.x ((ptr g)))), (11, some (.s (.c (.o 4 vb)))), (12, some (.s (.c (.o 6 vk)))), (13, some (.s (.c (.o 7 p'.2)))), (14, some (.i j)), (15, some (.s (.c (.p 11 bx 0)))), (17, some (.i p'.1))], gl := [], hp := [(7, .row p'.2 50 3 ((allRow N x ((marksB N).take p'.1) all).map encS)), (11, LO.box bx 38 (encO (entB N x) 8 kx 9 yx 10 sx)), (10, .row sx 50 3 ((entB N x).spans.map encS)), (9, .row yx 3 1 ((entB N x).keys.map encI)), (8, .row kx 3 1 ((entB N x).knows.map encI)), (6, .row vk 3 1 ((marksB N).map encI)), (4, .row vb 50 3 ((lacksB N).map encS)), (2, histO g rb B2 N)], S := [], ws := w }) (fun p' : Nat × Value => p'.1 ≤ j) (fun p' : Nat × Value => j - p'.1)
   (fun w' hw => ⟨(0, vo), Nat.zero_le _, Le.of rfl rfl ⟨rfl, rfl, rfl, rfl, rfl, rfl, rfl, rfl, trivial⟩, hw.renP (List.perm_middle (l₁ := [_, _, _, _])).symm rfl rfl, ⟨⟨_, _, _, rfl⟩, ⟨_, _, _, rfl⟩, ⟨_, _, _, rfl⟩, ⟨_, _, rfl⟩, trivial⟩, ⟨(nopS _).okH, encO_ok ⟨_, _, _, rfl⟩ ⟨_, _, _, rfl⟩ ⟨_, _, _, rfl⟩, (nopS _).okH, (nopI _).okH, (nopI _).okH, (nopI _).okH, (nopS _).okH, trivial⟩⟩) ?_
  rintro ⟨k, vq⟩ hki
  simp only at hki ⊢
  repeat refine zq ?_
  refine zr ?_; conv => whnf
  repeat refine zq ?_
  refine At.cond rfl (fun hc => At.skip ?_) (fun hc => At.exit ?_)
  ·have hlk : k < j := by have := of_decide_eq_true hc; omega
   obtain ⟨y, hy⟩ : ∃ y, (marksB N)[k]? = some y := ⟨_, List.getElem?_eq_getElem (by omega)⟩
   have hsn := allRow_snoc (N := N) (a := x) (all := all) hy
   have hrl := allRow_len hSg x ((marksB N).take k) all
   have hrl2 : ((marksB N).take k).length ≤ 24 := by rw [List.length_take]; omega
   have hsb := ent_sp hSg y
   have hcl := common_len hsa hsb
   generalize allRow N x ((marksB N).take k) all = row at hsn hrl ⊢
   repeat refine zq ?_
   refine At.block ?_
   repeat refine zq ?_
   refine zr ?_; conv => whnf
   refine ⟨rfl, ?_⟩; conv => whnf
   refine ⟨by omega, ?_⟩; conv => whnf
   refine ⟨by (try simp only [List.length_map]); omega, ?_⟩; conv => whnf
   refine ⟨encI y, ⟨rfl, rfl, by omega, by rw [Int.toNat_natCast, List.getElem?_map, hy]; rfl⟩, ?_⟩; conv => whnf
   refine entry_call (h := g) (rb := rb) (N := N) (mk := y) hNg (fun w' hw => histO_hr (hw.objs _ (look_mem (s := 2) rfl)) hNg (fun b hb => by cases hb)) ?_
   intro ky yy sy; conv => whnf
   intro bz; conv => whnf
   repeat refine zq ?_
   refine At.draw tab_ok mixed (by kernel_rfl) ?_; conv => whnf
   refine ⟨gimp_of rfl, ?_⟩; conv => whnf
   refine ⟨gimp_of (by omega), ?_⟩; conv => whnf
   refine ⟨gimp_of (by (try simp only [List.length_map]); omega), ?_⟩; conv => whnf
   refine ⟨encI x, gimp_of ⟨rfl, rfl, by omega, by rw [Int.toNat_natCast, List.getElem?_map, hx]; rfl⟩, ?_⟩; conv => whnf
   refine ⟨gimp_of rfl, ?_⟩; conv => whnf
   refine ⟨gimp_of (by omega), ?_⟩; conv => whnf
   refine ⟨gimp_of (by (try simp only [List.length_map]); omega), ?_⟩; conv => whnf
   refine ⟨encI y, gimp_of ⟨rfl, rfl, by omega, by rw [Int.toNat_natCast, List.getElem?_map, hy]; rfl⟩, ?_⟩; conv => whnf
   refine ⟨.b (apartB N x y), gimp_of (ans_quiet b14 (fun w' hw => apart48_r g rb N hNg x y w' (histO_hr (hw.objs _ (look_mem (s := 2) rfl)) hNg (fun b hb => by cases hb)))), ?_⟩; conv => whnf
   repeat refine zq ?_
   refine At.cond rfl (fun hq => ?_) (fun hq => At.skip ?_)
   ·have hp : pairC N x y = true := by unfold pairC; simpa only [band] using hq
    rw [if_pos hp] at hsn
    repeat refine zq ?_
    refine zr ?_; conv => whnf
    refine ansR_call b16 (rd1 (nopS _)) (fun w' hw => common_c (entB N x).spans (entB N y).spans [] [] sx sy w' (slS _ (hw.row (id := 10) rfl) (by omega)) (slS _ (hw.row (id := 14) rfl) (by omega)) (by omega) (by omega)) ?_
    intro vc; conv => whnf
    refine ansR_call b15 (rd1 (nopS _)) (fun w' hw => entUnion_c row (common (entB N x).spans (entB N y).spans) [] [] vq vc w' (slS _ (hw.row (id := 7) rfl) (by omega)) (slS _ (hw.row (id := 16) rfl) (by omega)) (by omega)) ?_
    intro vu; conv => whnf
    repeat refine zq ?_
    refine zr ?_; conv => whnf
    refine ⟨⟨by omega, by omega⟩, ?_⟩; conv => whnf
    refine At.nextH fun w' hw => ⟨(k + 1, vu), by simp only; omega, by simp only; omega, Le.of rfl rfl ⟨rfl, rfl, rfl, rfl, rfl, rfl, rfl, rfl, trivial⟩, hw.ren [17,11,10,9,8,6,4,2] (by simp only [hsn]; rfl) rfl rfl, ⟨⟨_, _, _, rfl⟩, ⟨_, _, _, rfl⟩, ⟨_, _, _, rfl⟩, ⟨_, _, rfl⟩, trivial⟩, ⟨(nopS _).okH, encO_ok ⟨_, _, _, rfl⟩ ⟨_, _, _, rfl⟩ ⟨_, _, _, rfl⟩, (nopS _).okH, (nopI _).okH, (nopI _).okH, (nopI _).okH, (nopS _).okH, trivial⟩⟩
   ·have hp : pairC N x y = false := by unfold pairC; simpa only [band] using hq
    rw [hp, if_neg (by decide)] at hsn
    repeat refine zq ?_
    refine zr ?_; conv => whnf
    refine ⟨⟨by omega, by omega⟩, ?_⟩; conv => whnf
    refine At.nextH fun w' hw => ⟨(k + 1, vq), by simp only; omega, by simp only; omega, Le.of rfl rfl ⟨rfl, rfl, rfl, rfl, rfl, rfl, rfl, rfl, trivial⟩, hw.keep [7, 11, 10, 9, 8, 6, 4, 2] (by simp only [hsn]; rfl) rfl rfl, ⟨⟨_, _, _, rfl⟩, ⟨_, _, _, rfl⟩, ⟨_, _, _, rfl⟩, ⟨_, _, rfl⟩, trivial⟩, ⟨(nopS _).okH, encO_ok ⟨_, _, _, rfl⟩ ⟨_, _, _, rfl⟩ ⟨_, _, _, rfl⟩, (nopS _).okH, (nopI _).okH, (nopI _).okH, (nopI _).okH, (nopS _).okH, trivial⟩⟩
  ·have hge : k = j := by have := of_decide_eq_false hc; omega
   subst hge
   repeat refine zq ?_
   refine zr ?_; conv => whnf
   refine ⟨⟨by omega, by omega⟩, ?_⟩; conv => whnf
   refine At.nextH fun w' hw => ⟨(k + 1, vq), by simp only; omega, by simp only; omega, Le.of rfl rfl ⟨rfl, rfl, rfl, rfl, rfl, rfl, trivial⟩, hw.keep [7, 6, 4, 2] (by simp only [hto]; rfl) rfl rfl, ⟨⟨_, _, _, rfl⟩, ⟨_, _, _, rfl⟩, ⟨_, _, _, rfl⟩, trivial⟩, ⟨(nopS _).okH, (nopI _).okH, (nopS _).okH, trivial⟩⟩
 ·have hge : j = (marksB N).length := by have := of_decide_eq_false hc; simp only [List.length_map] at this; omega
  subst hge
  rw [hall]
  repeat refine zq ?_
  refine zr ?_; conv => whnf
  refine ⟨.b (decide (lacksB N = lacksB N)), gimp_of (ans_quiet b17 (fun w' hw => spansEq_r (lacksB N) (lacksB N) vo vb w' (slS _ (hw.row (id := 7) rfl) (by omega)) (slS _ (hw.row (id := 4) rfl) (by omega)))), ?_⟩; conv => whnf
  repeat refine zq ?_
  refine At.ret (At.doneB tab_ok hB _ rfl fun w' hw => ⟨?_, hw.fr⟩)
  rw [decide_eq_true rfl]; rfl
end Go.Proofs.YtlobacpdhglnkaaGreatDoor
namespace Go.Proofs.YtlobacpdhglnkaaGreatDoor
open Go.Vc
noncomputable def laidL : List (String × DataW Unit) := [("stokvel/entry.uses", Rows.laid_stokvel_entry_uses), ("internal/strconv.uint64pow10", Rows.laid_internal_strconv_uint64pow10), ("math/bits.deBruijn32tab", Rows.laid_math_bits_deBruijn32tab), ("math/bits.deBruijn64tab", Rows.laid_math_bits_deBruijn64tab), ("strconv.ErrSyntax", Rows.laid_strconv_ErrSyntax), ("strconv.ErrRange", Rows.laid_strconv_ErrRange), ("stokvel/lex.signs", Rows.laid_stokvel_lex_signs)]
theorem laidL_plain : (laidL.all fun x => x.2.handleName?.isNone) = true := by kernel_rfl
theorem gUses : Tryz.prog.globalNamed "stokvel/entry.uses" = some 0 := by kernel_rfl
theorem gErrS : Tryz.prog.globalNamed "strconv.ErrSyntax" = some 3 := by kernel_rfl
theorem gErrR : Tryz.prog.globalNamed "strconv.ErrRange" = some 4 := by kernel_rfl
theorem gSigns : Tryz.prog.globalNamed "stokvel/lex.signs" = some 7 := by kernel_rfl
theorem tUses : (Tryz.prog.globals[0]?).map (·.type) = some 207 := by kernel_rfl
theorem tPow : (Tryz.prog.globals[2]?).map (·.type) = some 284 := by kernel_rfl
theorem tErrS : (Tryz.prog.globals[3]?).map (·.type) = some 149 := by kernel_rfl
theorem tErrR : (Tryz.prog.globals[4]?).map (·.type) = some 149 := by kernel_rfl
theorem uUses : Tryz.prog.underlying 207 = some (.array 21 9) := by kernel_rfl
theorem uPow : Tryz.prog.underlying 284 = some (.array 20 160) := by kernel_rfl
theorem uU64 : Tryz.prog.underlying 160 = some (.int .u64) := by kernel_rfl
theorem uStr : Tryz.prog.underlying 9 = some .string := by kernel_rfl
def isIfc : Option TypeDesc → Bool
 | some (.interface _) => true
 | _ => false
theorem isIfc_spec {d : Option TypeDesc} (h : isIfc d = true) : ∃ ms, d = some (.interface ms) := by
 unfold isIfc at h
 split at h
 ·exact ⟨_, rfl⟩
 ·cases h
theorem uErr : ∃ ms, Tryz.prog.underlying 149 = some (.interface ms) := isIfc_spec (by kernel_rfl)
theorem cUses : Tryz.prog.cellsOf 207 = 21 := by kernel_rfl
theorem cPow : Tryz.prog.cellsOf 284 = 20 := by kernel_rfl
theorem cU64 : Tryz.prog.cellsOf 160 = 1 := by kernel_rfl
theorem cStr : Tryz.prog.cellsOf 9 = 1 := by kernel_rfl
theorem cells_of_strs {H : Type} {enc : TypeId × Value → H} {P : Program} {w : World} {base : Nat} {sp : Nat → Bool} {held : Bool} {fuel : Nat} {t e : TypeId} {n : Nat} {cs : List Value} {zs : List (List UInt8)} {p : List MemPlace}
  (ht : P.underlying t = some (.array n e)) (he : P.underlying e = some .string) (hce : P.cellsOf e = 1) (hct : P.cellsOf t = n)
  (h : DataW.trod enc P w base sp held fuel t cs = some (.agg (zs.map fun z => .lit (.string z)), p)) : cs = zs.map sv := by
 obtain ⟨xs, m, rfl, hx, hl, hxl, hel⟩ := DataW.trod_array ht h
 rw [hct] at hl
 simp only [Prod.mk.injEq, DataW.agg.injEq] at hx
 have hzl : zs.length = n := by have := congrArg List.length hx.1; simp at this; omega
 apply List.ext_getElem?
 intro i
 by_cases hi : i < n
 ·have h0 := hel i hi
  rw [hce, Nat.mul_one, List.getElem?_eq_getElem (by omega)] at h0
  obtain ⟨s, hc, hy, _⟩ := DataW.trod_string he h0
  have h1 : cs[i]? = some (.string s) := by
   have := congrArg (·[0]?) hc
   simpa [List.getElem?_take, List.getElem?_drop] using this
  have h2 := congrArg (·[i]?) hx.1
  simp only [List.getElem?_map, List.getElem?_eq_getElem (show i < xs.length by omega), List.getElem?_eq_getElem (show i < zs.length by omega), Option.map_some, hy, Option.some.injEq, DataW.lit.injEq, Lit.string.injEq] at h2
  rw [h1, List.getElem?_map, List.getElem?_eq_getElem (show i < zs.length by omega), Option.map_some]
  have h3 : s = bs zs[i] := by
   rw [h2]
   obtain ⟨⟨l⟩⟩ := s
   rfl
  rw [h3]
 ·rw [List.getElem?_eq_none (by omega), List.getElem?_eq_none (by simp; omega)]
theorem iface_of {H : Type} {enc : TypeId × Value → H} {P : Program} {w : World} {base : Nat} {sp : Nat → Bool} {held : Bool} {fuel : Nat} {t : TypeId} {ms : Array (String × TypeId)} {cs : List Value} {nm : String} {d : DataW H} {p : List MemPlace}
  (ht : P.underlying t = some (.interface ms)) (h : DataW.trod enc P w base sp held fuel t cs = some (.iface nm d, p)) : ∃ u v, cs = [.iface u v] := by
 cases fuel with
 | zero => simp [DataW.trod] at h
 | succ fuel =>
  unfold DataW.trod at h
  rw [ht] at h
  split at h <;> simp_all
theorem gl_of_laid {W : World} (h : laidMetH Tryz.prog laidL W) : Gl W := by
 rw [MakeChecks.laidMetH_plain _ _ _ laidL_plain] at h
 obtain ⟨ps, ⟨g0, t0, cs0, f0, p0, q0, hg0, ht0, hv0, hd0, ⟨g1, t1, cs1, f1, p1, q1, hg1, ht1, hv1, hd1, ⟨g2', t2, cs2, f2, p2, q2, hg2, ht2, hv2, hd2, ⟨g3, t3, cs3, f3, p3, q3, hg3, ht3, hv3, hd3, ⟨g4, t4, cs4, f4, p4, q4, hg4, ht4, hv4, hd4, ⟨g5, t5, cs5, f5, p5, q5, hg5, ht5, hv5, hd5, ⟨g6, t6, cs6, f6, p6, q6, hg6, ht6, hv6, hd6, _, _⟩, _⟩, _⟩, _⟩, _⟩, _⟩, hps⟩, _, hcell⟩ := h
 obtain rfl := Option.some.inj (gUses.symm.trans hg0)
 obtain rfl := Option.some.inj (g2.symm.trans hg1)
 obtain rfl := Option.some.inj (gErrS.symm.trans hg4)
 obtain rfl := Option.some.inj (gErrR.symm.trans hg5)
 obtain rfl := Option.some.inj (tUses.symm.trans ht0)
 obtain rfl := Option.some.inj (tPow.symm.trans ht1)
 obtain rfl := Option.some.inj (tErrS.symm.trans ht4)
 obtain rfl := Option.some.inj (tErrR.symm.trans ht5)
 obtain ⟨ms, uE⟩ := uErr
 have e0 : cs0.toList = usesTab.map sv := cells_of_strs uUses uStr cStr cUses hd0
 have e1 : cs1.toList = Lib.pow10Tab.map fun z => Value.int .u64 z := Lib.cells_of_tab uPow uU64 cU64 cPow hd1
 obtain ⟨u4, v4, e4⟩ := iface_of uE hd4
 obtain ⟨u5, v5, e5⟩ := iface_of uE hd5
 have hs : ∀ {g : Nat} {cs : Array Value} {n : String}, Tryz.prog.globalNamed n = some g → W.var? Tryz.prog n = some cs → g < W.heap.size := fun {g cs n} hg hv => by
  simp only [World.var?, hg, Option.bind_some] at hv
  split at hv
  ·rename_i hh; exact (Array.getElem?_eq_some_iff.1 hh).1
  ·cases hv
 refine ⟨?_, ?_, ?_, ⟨u4, v4, ?_⟩, ⟨u5, v5, ?_⟩⟩
 ·have := hs gSigns hv6
  omega
 ·have hm : MemPlace.cell 0 0 ∈ ps := by
   rw [hps]
   refine List.mem_append.2 (.inl (List.mem_append.2 (.inl ?_)))
   refine List.mem_map.2 ⟨0, List.mem_range.2 ?_, rfl⟩
   have := congrArg List.length e0
   simp only [Array.length_toList, List.length_map] at this
   rw [this]; decide
  obtain ⟨⟨c, T, hh⟩, _⟩ := hcell 0 0 hm
  refine ⟨T, ?_⟩
  rw [hh]
  simp only [World.var?, gUses, Option.bind_some, hh, Option.some.injEq] at hv0
  rw [hv0, ← e0]
 ·show W.var? Tryz.prog _ = _
  rw [hv1, ← e1]
 ·have := World.var?_cell hg4 hv4 0
  rw [this, ← Array.getElem?_toList, e4]; rfl
 ·have := World.var?_cell hg5 hv5 0
  rw [this, ← Array.getElem?_toList, e5]; rfl
end Go.Proofs.YtlobacpdhglnkaaGreatDoor
