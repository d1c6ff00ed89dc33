/- Texts that the law leans on. -/
import Derived.Test.YtdigebokbhmfaaaGreatDoorU29
import Derived.Test.YtdigebokbhmfaaaGreatDoorU27
set_option linter.unusedVariables false
set_option linter.unusedSimpArgs false
namespace Go.Proofs.YtdigebokbhmfaaaGreatDoor.Ap
open Go.Vc Rt Go.Bs
set_option maxHeartbeats 1000000
@[reducible] def encVo (p : Int × Int) : List CV := [.i p.1, .i p.2]
def voT : Ty (Int × Int) := flat 2 encVo (fun _ => rfl)
theorem nopVo (xs : List (Int × Int)) : NoP (xs.map encVo) := NoP.map (fun _ => rfl) xs
theorem cloneVo_c (xs : List (Int × Int)) (v : Value) (w : World) (h : SlOf voT [] w v xs) (hB : xs.length ≤ 1000000) : AnsR Tryz.prog 169 [v] [.row 193 2 (xs.map encVo)] w := by
 refine calls_plainB [.x v] Tryz.func169 rfl rfl (Nat.le_of_ble_eq_true rfl) rfl fun B hB => ?_
 repeat refine zq ?_
 refine zr ?_; conv => whnf
 repeat refine zq ?_
 refine zr ?_; conv => whnf
 refine ⟨h.sl, ?_⟩; conv => whnf
 repeat refine zq ?_
 refine At.cond rfl (fun hq => ?_) (fun hq => ?_)
 ·have hx : xs = [] := by
   obtain ⟨a, n, c, rfl, hnil, _⟩ := h.sl
   have hl := h.len
   cases a with
   | none => simp [slen] at hl; exact List.eq_nil_of_length_eq_zero (by omega)
   | some a => simp [isNilS] at hq
  subst hx
  repeat refine zq ?_
  refine zr ?_; conv => whnf
  repeat refine zq ?_
  refine At.ret (At.doneB tab_ok hB _ rfl fun w' hw => ansR_nil hw rfl rfl)
 ·refine At.skip ?_
  repeat refine zq ?_
  refine zr ?_; conv => whnf
  intro v1; conv => whnf
  refine ⟨xs.map encVo, ⟨fun w' hw => (h.fr hw.fr).src (fun _ => rfl), nopVo xs⟩, ?_⟩; conv => whnf
  refine ⟨⟨rfl, by simp; omega⟩, ?_⟩; conv => whnf
  intro v2; conv => whnf
  repeat refine zq ?_
  refine At.ret (At.doneB tab_ok hB _ rfl fun w' hw => ansR_row (id := 0) hw rfl rfl rfl)
theorem cloneLots_nil (w : World) : Ans Tryz.prog 168 [.slice none 0 0] (.x (.slice none 0 0)) w := by
 refine calls_plainB [.x (.slice none 0 0)] Tryz.func168 rfl rfl (Nat.le_of_ble_eq_true rfl) rfl fun B hB => ?_
 repeat refine zq ?_
 refine zr ?_; conv => whnf
 repeat refine zq ?_
 refine zr ?_; conv => whnf
 refine ⟨nilSl, ?_⟩; conv => whnf
 repeat refine zq ?_
 refine At.cond (t := true) rfl (fun _ => ?_) (fun hq => by cases hq)
 repeat refine zq ?_
 refine zr ?_; conv => whnf
 repeat refine zq ?_
 refine At.ret (At.doneB tab_ok hB _ rfl fun w' hw => ⟨rfl, hw.fr⟩)
theorem cloneCirc_nil (w : World) : Ans Tryz.prog 170 [.slice none 0 0] (.x (.slice none 0 0)) w := by
 refine calls_plainB [.x (.slice none 0 0)] Tryz.func170 rfl rfl (Nat.le_of_ble_eq_true rfl) rfl fun B hB => ?_
 repeat refine zq ?_
 refine zr ?_; conv => whnf
 repeat refine zq ?_
 refine zr ?_; conv => whnf
 refine ⟨nilSl, ?_⟩; conv => whnf
 repeat refine zq ?_
 refine At.cond (t := true) rfl (fun _ => ?_) (fun hq => by cases hq)
 repeat refine zq ?_
 refine zr ?_; conv => whnf
 repeat refine zq ?_
 refine At.ret (At.doneB tab_ok hB _ rfl fun w' hw => ⟨rfl, hw.fr⟩)
theorem slVo {w : World} {v : Value} {E : Nat} (xs : List (Int × Int)) (h : (LO.row v E 2 (xs.map encVo)).holds w) (hl : xs.length ≤ 1000000) : SlOf voT [] w v xs := SlOf.of_row (enc := encVo) h (fun _ _ => nilS) (by omega)
structure Rows2 (ks : List Int) (vo : List (Int × Int)) (n0 : Nat) (w : World) (k v : Value) : Prop where
 rk : (LO.row k 3 1 (ks.map encI)).holds w
 rv : (LO.row v 193 2 (vo.map encVo)).holds w
 fresh : ∀ b, b ∈ blkOf k ∨ b ∈ blkOf v → n0 ≤ b
 dkv : ∀ b ∈ blkOf k, b ∉ blkOf v
theorem rows2_call {st : St} {d : Option Nat} {K : St → Prop} {f : FuncId} {args : List Value} {ks : List Int} (Pv : List (Int × Int) → Prop) (F : Nat → Value → Nat → Value → RV) (G : Value → Value → Value) (hF : ∀ n1 k n2 v, (F n1 k n2 v).den = G k v)
  (hok : ∀ hp n1 k n2 v, (∃ a n c, k = .slice a n c) → (∃ a n c, v = .slice a n c) → RVok hp (F n1 k n2 v)) (hb : Body Tryz.prog f)
  (h : ∀ w, Holds st w → Calls Tryz.prog f args.toArray w (fun e w' => ∃ vo k v, Pv vo ∧ e = .returned (G k v) ∧ Rows2 ks vo w.heap.size w' k v ∧ Ext w w'))
  (hk : ∀ vo k v, Pv vo → st.pushK (.row k 3 1 (ks.map encI)) (fun n1 st1 => st1.pushK (.row v 193 2 (vo.map encVo)) (fun n2 st2 => goPut st2 d (F n1 k n2 v) K))) :
  UCall Tryz.prog st f args d K :=
 .inl ⟨hb, fun hwf w hw => (h w hw).mono fun e w' ⟨vo, k, v, hp, he, hr, hx⟩ => by
  have hk' := hk vo k v hp
  simp only [pushK_eq] at hk'
  have hlt := hw.blk_lt
  have hS : ∀ b, w.heap.size ≤ b → st.ws.heap.size ≤ b := fun b hb => Nat.le_trans hw.fr.size hb
  have hw1 : Holds (st.push (.row k 3 1 (ks.map encI))) w' := (hw.ext hx).pushO hr.rk fun b hb => ⟨fun hm => by have := hlt b hm; have := hr.fresh b (.inl hb); omega, .inr (hS b (hr.fresh b (.inl hb)))⟩
  have hw2 : Holds ((st.push (.row k 3 1 (ks.map encI))).push (.row v 193 2 (vo.map encVo))) w' := hw1.pushO hr.rv fun b hb => ⟨fun hm => by
   rcases mem_blks_push hm with hm | hm
   ·exact hr.dkv b hm hb
   ·have := hlt b hm; have := hr.fresh b (.inr hb); omega, .inr (hS b (hr.fresh b (.inr hb)))⟩
  have ok1 : LOok st.hp (.row k 3 1 (ks.map encI)) := ⟨rows_some hr.rk, (nopI _).ok⟩
  have ok2 : LOok (st.push (.row k 3 1 (ks.map encI))).hp (.row v 193 2 (vo.map encVo)) := ⟨rows_some hr.rv, (nopVo _).ok⟩
  exact ⟨_, _, he.trans (congrArg Ending.returned (hF _ _ _ _).symm), push_same.trans push_same, (hwf.push ok1).push ok2, hok _ _ _ _ _ (ownsAt_slice hr.rk.1) (ownsAt_slice hr.rv.1), hw2, hk'⟩⟩
@[reducible] def fSt (n1 : Nat) (k : Value) (n2 : Nat) (v : Value) : RV := .s (.agg [.i 0, .o n1 k, .x (.slice none 0 0), .x (.slice none 0 0), .o n2 v])
theorem fSt_ok (hp : List (Nat × LO)) (n1 : Nat) (k : Value) (n2 : Nat) (v : Value) (hk : ∃ a n c, k = .slice a n c) (hv : ∃ a n c, v = .slice a n c) : RVok hp (fSt n1 k n2 v) := fun c hc => by
 simp only [List.mem_cons, List.not_mem_nil, or_false] at hc
 rcases hc with rfl | rfl | rfl | rfl | rfl
 ·trivial
 ·exact hk
 ·trivial
 ·trivial
 ·exact hv
@[reducible] def fSe (er : Int) (n1 : Nat) (k : Value) (n2 : Nat) (v : Value) : RV := .tup [.agg [.i 0, .o n1 k, .x (.slice none 0 0), .x (.slice none 0 0), .o n2 v], .c (.i er)]
theorem fSe_ok (er : Int) (hp : List (Nat × LO)) (n1 : Nat) (k : Value) (n2 : Nat) (v : Value) (hk : ∃ a n c, k = .slice a n c) (hv : ∃ a n c, v = .slice a n c) : RVok hp (fSe er n1 k n2 v) := fun c hc => by
 simp only [List.mem_cons, List.not_mem_nil, or_false] at hc
 rcases hc with rfl | rfl
 ·exact fSt_ok hp n1 k n2 v hk hv
 ·trivial
abbrev StF (f : FuncId) (args : List Value) (ks : List Int) (Pv : List (Int × Int) → Prop) (w : World) : Prop :=
 Calls Tryz.prog f args.toArray w (fun e w' => ∃ vo k v, Pv vo ∧ e = .returned (vStt k v) ∧ Rows2 ks vo w.heap.size w' k v ∧ Ext w w')
theorem rows2_of {st : St} {w w' : World} {i j : Nat} {k v : Value} {ks : List Int} {vo : List (Int × Int)} (hw : Holds st w') (hi : Vc.look st.hp i = some (.row k 3 1 (ks.map encI))) (hj : Vc.look st.hp j = some (.row v 193 2 (vo.map encVo))) (hne : i ≠ j) (hS : st.S = []) (hws : st.ws = w) : Rows2 ks vo w.heap.size w' k v ∧ Ext w w' := by
 subst hws
 refine ⟨⟨hw.row hi, hw.row hj, fun b hb => ?_, hw.apart hi hj hne⟩, by have := hw.fr; rwa [hS] at this⟩
 rcases hb with hb | hb
 ·exact (hw.fresh hi b hb).elim (fun h => by rw [hS] at h; cases h) _root_.id
 ·exact (hw.fresh hj b hb).elim (fun h => by rw [hS] at h; cases h) _root_.id
theorem copySt_c (ks : List Int) (vo : List (Int × Int)) (kv vv : Value) (w : World) (hk : SlOf intT [] w kv ks) (hv : SlOf voT [] w vv vo) (hkl : ks.length ≤ 1000000) (hvl : vo.length ≤ 1000000) : StF 132 [vStt kv vv] ks (fun vo' => vo' = vo) w := by
 refine calls_e [.s (.agg (encStt kv vv))] Tryz.func132 rfl rfl (Nat.le_of_ble_eq_true rfl) trivial fun B hB => ?_
 repeat refine zq ?_
 refine zr ?_; conv => whnf
 refine ⟨hk.one, ?_⟩; conv => whnf
 refine ⟨rfl, ?_⟩; conv => whnf
 refine ⟨rfl, ?_⟩; conv => whnf
 refine ⟨hv.one, ?_⟩; conv => whnf
 intro b1; conv => whnf
 intro b2; conv => whnf
 repeat refine zq ?_
 refine At.join (fun p' : Value × Value => { N := Tryz.f132.ntmps, sl := [(1, some (.s (.c (.p 0 b1 0)))), (2, some (.s (.c (.p 1 b2 0))))], gl := [], hp := [(3, .row p'.2 193 2 (vo.map encVo)), (2, .row p'.1 3 1 (ks.map encI)), (1, .box b2 115 [.i 0, .x (.slice none 0 0), .x (.slice none 0 0), .x (.slice none 0 0), .x (.slice none 0 0)]), (0, .box b1 115 [.i 0, .o 2 p'.1, .x (.slice none 0 0), .x (.slice none 0 0), .o 3 p'.2])], S := [], ws := w }) (fun p' : Value × Value => True) ?_ ?_
 ·repeat refine zq ?_
  refine At.planG tab_ok mixed [] (.take 0 (.take 3 (.take 6 (.br 1 (.br 2 (.br 4 (.br 5 (.br 7 (.take 9 (.br 8 (.br 10 (.take 11 (.br 12 (.take 13 (.br 14 (.done) (.nob))) (.nob))) (.nob)) (.nob))) (.nob)) (.br 7 (.take 9 (.br 5 (.br 8 (.br 10 (.take 11 (.br 12 (.take 13 (.br 14 (.done) (.nob))) (.nob))) (.nob)) (.nob)) (.nob))) (.nob))) (.br 7 (.br 4 (.take 9 (.br 5 (.br 8 (.br 10 (.take 11 (.br 12 (.take 13 (.br 14 (.done) (.nob))) (.nob))) (.nob)) (.nob)) (.nob))) (.nob)) (.nob))) (.br 4 (.br 2 (.br 5 (.br 7 (.take 9 (.br 8 (.br 10 (.take 11 (.br 12 (.take 13 (.br 14 (.done) (.nob))) (.nob))) (.nob)) (.nob))) (.nob)) (.br 7 (.take 9 (.br 5 (.br 8 (.br 10 (.take 11 (.br 12 (.take 13 (.br 14 (.done) (.nob))) (.nob))) (.nob)) (.nob)) (.nob))) (.nob))) (.br 7 (.br 2 (.take 9 (.br 5 (.br 8 (.br 10 (.take 11 (.br 12 (.take 13 (.br 14 (.done) (.nob))) (.nob))) (.nob)) (.nob)) (.nob))) (.nob)) (.nob))) (.br 7 (.br 2 (.br 4 (.take 9 (.br 5 (.br 8 (.br 10 (.take 11 (.br 12 (.take 13 (.br 14 (.done) (.nob))) (.nob))) (.nob)) (.nob)) (.nob))) (.nob)) (.br 4 (.br 2 (.take 9 (.br 5 (.br 8 (.br 10 (.take 11 (.br 12 (.take 13 (.br 14 (.done) (.nob))) (.nob))) (.nob)) (.nob)) (.nob))) (.nob)) (.nob))) (.nob)))) (.br 4 (.br 1 (.br 2 (.br 5 (.br 7 (.take 9 (.br 8 (.br 10 (.take 11 (.br 12 (.take 13 (.br 14 (.done) (.nob))) (.nob))) (.nob)) (.nob))) (.nob)) (.br 7 (.take 9 (.br 5 (.br 8 (.br 10 (.take 11 (.br 12 (.take 13 (.br 14 (.done) (.nob))) (.nob))) (.nob)) (.nob)) (.nob))) (.nob))) (.br 7 (.br 2 (.take 9 (.br 5 (.br 8 (.br 10 (.take 11 (.br 12 (.take 13 (.br 14 (.done) (.nob))) (.nob))) (.nob)) (.nob)) (.nob))) (.nob)) (.nob))) (.br 7 (.br 1 (.br 2 (.take 9 (.br 5 (.br 8 (.br 10 (.take 11 (.br 12 (.take 13 (.br 14 (.done) (.nob))) (.nob))) (.nob)) (.nob)) (.nob))) (.nob)) (.nob)) (.nob))) (.br 7 (.br 1 (.br 2 (.br 4 (.take 9 (.br 5 (.br 8 (.br 10 (.take 11 (.br 12 (.take 13 (.br 14 (.done) (.nob))) (.nob))) (.nob)) (.nob)) (.nob))) (.nob)) (.br 4 (.br 2 (.take 9 (.br 5 (.br 8 (.br 10 (.take 11 (.br 12 (.take 13 (.br 14 (.done) (.nob))) (.nob))) (.nob)) (.nob)) (.nob))) (.nob)) (.nob))) (.br 4 (.br 1 (.br 2 (.take 9 (.br 5 (.br 8 (.br 10 (.take 11 (.br 12 (.take 13 (.br 14 (.done) (.nob))) (.nob))) (.nob)) (.nob)) (.nob))) (.nob)) (.nob)) (.nob))) (.nob))))))) (by kernel_rfl) (by kernel_rfl) trivial ?_; conv => whnf
  refine ⟨?_, ?_, ?_, trivial⟩
  ·conv => whnf
   refine ⟨⟨trivial, fun w' hw => hw.fr⟩, ?_⟩; conv => whnf
   refine ⟨?_, ?_, ?_, trivial⟩
   ·conv => whnf
    refine ansR_call b45 (rd1 (nopI _)) (fun w' hw => cloneI_c ks [] kv w' (hk.ext hw.fr) hkl) ?_
    intro k2; conv => whnf
    refine ⟨⟨trivial, fun w' hw => hw.fr⟩, ?_⟩; conv => whnf
    refine ⟨?_, ?_, trivial⟩
    ·conv => whnf
     refine ⟨⟨trivial, fun w' hw => hw.fr⟩, ?_⟩; conv => whnf
     refine ⟨?_, ?_, trivial⟩
     ·conv => whnf
      refine ans_call (r := .x (.slice none 0 0)) b168 rfl (fun w' _ => cloneLots_nil w') ?_; conv => whnf
      refine ⟨⟨trivial, fun w' hw => hw.fr⟩, ?_⟩; conv => whnf
      refine ⟨?_, trivial⟩; conv => whnf
      refine ⟨⟨trivial, fun w' hw => hw.fr⟩, ?_⟩; conv => whnf
      refine ⟨?_, trivial⟩; conv => whnf
      refine ansR_call b169 (rd1 (nopVo _)) (fun w' hw => cloneVo_c vo vv w' (hv.ext hw.fr) hvl) ?_
      intro v2; conv => whnf
      refine ⟨⟨trivial, fun w' hw => hw.fr⟩, ?_⟩; conv => whnf
      refine ⟨?_, trivial⟩; conv => whnf
      refine ⟨⟨trivial, fun w' hw => hw.fr⟩, ?_⟩; conv => whnf
      refine ⟨?_, trivial⟩; conv => whnf
      refine ⟨rfl, ?_⟩; conv => whnf
      refine ⟨⟨trivial, fun w' hw => hw.fr⟩, ?_⟩; conv => whnf
      refine ⟨?_, trivial⟩; conv => whnf
      refine ⟨⟨trivial, fun w' hw => hw.fr⟩, ?_⟩; conv => whnf
      refine At.meet fun w' hw => ⟨(k2, v2), trivial, Le.of rfl rfl ⟨rfl, rfl, trivial⟩, hw.keep [3, 2, 1, 0] rfl rfl rfl, ⟨⟨_, _, rfl⟩, ⟨_, _, rfl⟩, trivial⟩, ⟨(nopVo _).okH, (nopI _).okH, fun c hc => by simp at hc; rcases hc with rfl | rfl | rfl | rfl | rfl <;> first | exact ⟨_, _, _, rfl⟩ | exact ⟨_, _, rfl⟩ | trivial, trivial⟩⟩
     ·conv => whnf
      refine ⟨⟨trivial, fun w' hw => hw.fr⟩, ?_⟩; conv => whnf
      refine ⟨?_, trivial⟩; conv => whnf
      refine ans_call (r := .x (.slice none 0 0)) b168 rfl (fun w' _ => cloneLots_nil w') ?_; conv => whnf
      refine ⟨⟨trivial, fun w' hw => hw.fr⟩, ?_⟩; conv => whnf
      refine ⟨?_, trivial⟩; conv => whnf
      refine ansR_call b169 (rd1 (nopVo _)) (fun w' hw => cloneVo_c vo vv w' (hv.ext hw.fr) hvl) ?_
      intro v2; conv => whnf
      refine ⟨⟨trivial, fun w' hw => hw.fr⟩, ?_⟩; conv => whnf
      refine ⟨?_, trivial⟩; conv => whnf
      refine ⟨⟨trivial, fun w' hw => hw.fr⟩, ?_⟩; conv => whnf
      refine ⟨?_, trivial⟩; conv => whnf
      refine ⟨rfl, ?_⟩; conv => whnf
      refine ⟨⟨trivial, fun w' hw => hw.fr⟩, ?_⟩; conv => whnf
      refine ⟨?_, trivial⟩; conv => whnf
      refine ⟨⟨trivial, fun w' hw => hw.fr⟩, ?_⟩; conv => whnf
      refine At.meet fun w' hw => ⟨(k2, v2), trivial, Le.of rfl rfl ⟨rfl, rfl, trivial⟩, hw.keep [3, 2, 1, 0] rfl rfl rfl, ⟨⟨_, _, rfl⟩, ⟨_, _, rfl⟩, trivial⟩, ⟨(nopVo _).okH, (nopI _).okH, fun c hc => by simp at hc; rcases hc with rfl | rfl | rfl | rfl | rfl <;> first | exact ⟨_, _, _, rfl⟩ | exact ⟨_, _, rfl⟩ | trivial, trivial⟩⟩
    ·conv => whnf
     refine ⟨⟨trivial, fun w' hw => hw.fr⟩, ?_⟩; conv => whnf
     refine ⟨?_, trivial⟩; conv => whnf
     refine ⟨⟨trivial, fun w' hw => hw.fr⟩, ?_⟩; conv => whnf
     refine ⟨?_, trivial⟩; conv => whnf
     refine ans_call (r := .x (.slice none 0 0)) b168 rfl (fun w' _ => cloneLots_nil w') ?_; conv => whnf
     refine ⟨⟨trivial, fun w' hw => hw.fr⟩, ?_⟩; conv => whnf
     refine ⟨?_, trivial⟩; conv => whnf
     refine ansR_call b169 (rd1 (nopVo _)) (fun w' hw => cloneVo_c vo vv w' (hv.ext hw.fr) hvl) ?_
     intro v2; conv => whnf
     refine ⟨⟨trivial, fun w' hw => hw.fr⟩, ?_⟩; conv => whnf
     refine ⟨?_, trivial⟩; conv => whnf
     refine ⟨⟨trivial, fun w' hw => hw.fr⟩, ?_⟩; conv => whnf
     refine ⟨?_, trivial⟩; conv => whnf
     refine ⟨rfl, ?_⟩; conv => whnf
     refine ⟨⟨trivial, fun w' hw => hw.fr⟩, ?_⟩; conv => whnf
     refine ⟨?_, trivial⟩; conv => whnf
     refine ⟨⟨trivial, fun w' hw => hw.fr⟩, ?_⟩; conv => whnf
     refine At.meet fun w' hw => ⟨(k2, v2), trivial, Le.of rfl rfl ⟨rfl, rfl, trivial⟩, hw.keep [3, 2, 1, 0] rfl rfl rfl, ⟨⟨_, _, rfl⟩, ⟨_, _, rfl⟩, trivial⟩, ⟨(nopVo _).okH, (nopI _).okH, fun c hc => by simp at hc; rcases hc with rfl | rfl | rfl | rfl | rfl <;> first | exact ⟨_, _, _, rfl⟩ | exact ⟨_, _, rfl⟩ | trivial, trivial⟩⟩
   ·conv => whnf
    refine ⟨⟨trivial, fun w' hw => hw.fr⟩, ?_⟩; conv => whnf
    refine ⟨?_, ?_, trivial⟩
    ·conv => whnf
     refine ansR_call b45 (rd1 (nopI _)) (fun w' hw => cloneI_c ks [] kv w' (hk.ext hw.fr) hkl) ?_
     intro k2; conv => whnf
     refine ⟨⟨trivial, fun w' hw => hw.fr⟩, ?_⟩; conv => whnf
     refine ⟨?_, ?_, trivial⟩
     ·conv => whnf
      refine ans_call (r := .x (.slice none 0 0)) b168 rfl (fun w' _ => cloneLots_nil w') ?_; conv => whnf
      refine ⟨⟨trivial, fun w' hw => hw.fr⟩, ?_⟩; conv => whnf
      refine ⟨?_, trivial⟩; conv => whnf
      refine ⟨⟨trivial, fun w' hw => hw.fr⟩, ?_⟩; conv => whnf
      refine ⟨?_, trivial⟩; conv => whnf
      refine ansR_call b169 (rd1 (nopVo _)) (fun w' hw => cloneVo_c vo vv w' (hv.ext hw.fr) hvl) ?_
      intro v2; conv => whnf
      refine ⟨⟨trivial, fun w' hw => hw.fr⟩, ?_⟩; conv => whnf
      refine ⟨?_, trivial⟩; conv => whnf
      refine ⟨⟨trivial, fun w' hw => hw.fr⟩, ?_⟩; conv => whnf
      refine ⟨?_, trivial⟩; conv => whnf
      refine ⟨rfl, ?_⟩; conv => whnf
      refine ⟨⟨trivial, fun w' hw => hw.fr⟩, ?_⟩; conv => whnf
      refine ⟨?_, trivial⟩; conv => whnf
      refine ⟨⟨trivial, fun w' hw => hw.fr⟩, ?_⟩; conv => whnf
      refine At.meet fun w' hw => ⟨(k2, v2), trivial, Le.of rfl rfl ⟨rfl, rfl, trivial⟩, hw.keep [3, 2, 1, 0] rfl rfl rfl, ⟨⟨_, _, rfl⟩, ⟨_, _, rfl⟩, trivial⟩, ⟨(nopVo _).okH, (nopI _).okH, fun c hc => by simp at hc; rcases hc with rfl | rfl | rfl | rfl | rfl <;> first | exact ⟨_, _, _, rfl⟩ | exact ⟨_, _, rfl⟩ | trivial, trivial⟩⟩
     ·conv => whnf
      refine ⟨⟨trivial, fun w' hw => hw.fr⟩, ?_⟩; conv => whnf
      refine ⟨?_, trivial⟩; conv => whnf
      refine ans_call (r := .x (.slice none 0 0)) b168 rfl (fun w' _ => cloneLots_nil w') ?_; conv => whnf
      refine ⟨⟨trivial, fun w' hw => hw.fr⟩, ?_⟩; conv => whnf
      refine ⟨?_, trivial⟩; conv => whnf
      refine ansR_call b169 (rd1 (nopVo _)) (fun w' hw => cloneVo_c vo vv w' (hv.ext hw.fr) hvl) ?_
      intro v2; conv => whnf
      refine ⟨⟨trivial, fun w' hw => hw.fr⟩, ?_⟩; conv => whnf
      refine ⟨?_, trivial⟩; conv => whnf
      refine ⟨⟨trivial, fun w' hw => hw.fr⟩, ?_⟩; conv => whnf
      refine ⟨?_, trivial⟩; conv => whnf
      refine ⟨rfl, ?_⟩; conv => whnf
      refine ⟨⟨trivial, fun w' hw => hw.fr⟩, ?_⟩; conv => whnf
      refine ⟨?_, trivial⟩; conv => whnf
      refine ⟨⟨trivial, fun w' hw => hw.fr⟩, ?_⟩; conv => whnf
      refine At.meet fun w' hw => ⟨(k2, v2), trivial, Le.of rfl rfl ⟨rfl, rfl, trivial⟩, hw.keep [3, 2, 1, 0] rfl rfl rfl, ⟨⟨_, _, rfl⟩, ⟨_, _, rfl⟩, trivial⟩, ⟨(nopVo _).okH, (nopI _).okH, fun c hc => by simp at hc; rcases hc with rfl | rfl | rfl | rfl | rfl <;> first | exact ⟨_, _, _, rfl⟩ | exact ⟨_, _, rfl⟩ | trivial, trivial⟩⟩
    ·conv => whnf
     refine ⟨⟨trivial, fun w' hw => hw.fr⟩, ?_⟩; conv => whnf
     refine ⟨?_, trivial⟩; conv => whnf
     refine ansR_call b45 (rd1 (nopI _)) (fun w' hw => cloneI_c ks [] kv w' (hk.ext hw.fr) hkl) ?_
     intro k2; conv => whnf
     refine ⟨⟨trivial, fun w' hw => hw.fr⟩, ?_⟩; conv => whnf
     refine ⟨?_, trivial⟩; conv => whnf
     refine ans_call (r := .x (.slice none 0 0)) b168 rfl (fun w' _ => cloneLots_nil w') ?_; conv => whnf
     refine ⟨⟨trivial, fun w' hw => hw.fr⟩, ?_⟩; conv => whnf
     refine ⟨?_, trivial⟩; conv => whnf
     refine ansR_call b169 (rd1 (nopVo _)) (fun w' hw => cloneVo_c vo vv w' (hv.ext hw.fr) hvl) ?_
     intro v2; conv => whnf
     refine ⟨⟨trivial, fun w' hw => hw.fr⟩, ?_⟩; conv => whnf
     refine ⟨?_, trivial⟩; conv => whnf
     refine ⟨⟨trivial, fun w' hw => hw.fr⟩, ?_⟩; conv => whnf
     refine ⟨?_, trivial⟩; conv => whnf
     refine ⟨rfl, ?_⟩; conv => whnf
     refine ⟨⟨trivial, fun w' hw => hw.fr⟩, ?_⟩; conv => whnf
     refine ⟨?_, trivial⟩; conv => whnf
     refine ⟨⟨trivial, fun w' hw => hw.fr⟩, ?_⟩; conv => whnf
     refine At.meet fun w' hw => ⟨(k2, v2), trivial, Le.of rfl rfl ⟨rfl, rfl, trivial⟩, hw.keep [3, 2, 1, 0] rfl rfl rfl, ⟨⟨_, _, rfl⟩, ⟨_, _, rfl⟩, trivial⟩, ⟨(nopVo _).okH, (nopI _).okH, fun c hc => by simp at hc; rcases hc with rfl | rfl | rfl | rfl | rfl <;> first | exact ⟨_, _, _, rfl⟩ | exact ⟨_, _, rfl⟩ | trivial, trivial⟩⟩
   ·conv => whnf
    refine ⟨⟨trivial, fun w' hw => hw.fr⟩, ?_⟩; conv => whnf
    refine ⟨?_, ?_, trivial⟩
    ·conv => whnf
     refine ansR_call b45 (rd1 (nopI _)) (fun w' hw => cloneI_c ks [] kv w' (hk.ext hw.fr) hkl) ?_
     intro k2; conv => whnf
     refine ⟨⟨trivial, fun w' hw => hw.fr⟩, ?_⟩; conv => whnf
     refine ⟨?_, trivial⟩; conv => whnf
     refine ⟨⟨trivial, fun w' hw => hw.fr⟩, ?_⟩; conv => whnf
     refine ⟨?_, trivial⟩; conv => whnf
     refine ans_call (r := .x (.slice none 0 0)) b168 rfl (fun w' _ => cloneLots_nil w') ?_; conv => whnf
     refine ⟨⟨trivial, fun w' hw => hw.fr⟩, ?_⟩; conv => whnf
     refine ⟨?_, trivial⟩; conv => whnf
     refine ansR_call b169 (rd1 (nopVo _)) (fun w' hw => cloneVo_c vo vv w' (hv.ext hw.fr) hvl) ?_
     intro v2; conv => whnf
     refine ⟨⟨trivial, fun w' hw => hw.fr⟩, ?_⟩; conv => whnf
     refine ⟨?_, trivial⟩; conv => whnf
     refine ⟨⟨trivial, fun w' hw => hw.fr⟩, ?_⟩; conv => whnf
     refine ⟨?_, trivial⟩; conv => whnf
     refine ⟨rfl, ?_⟩; conv => whnf
     refine ⟨⟨trivial, fun w' hw => hw.fr⟩, ?_⟩; conv => whnf
     refine ⟨?_, trivial⟩; conv => whnf
     refine ⟨⟨trivial, fun w' hw => hw.fr⟩, ?_⟩; conv => whnf
     refine At.meet fun w' hw => ⟨(k2, v2), trivial, Le.of rfl rfl ⟨rfl, rfl, trivial⟩, hw.keep [3, 2, 1, 0] rfl rfl rfl, ⟨⟨_, _, rfl⟩, ⟨_, _, rfl⟩, trivial⟩, ⟨(nopVo _).okH, (nopI _).okH, fun c hc => by simp at hc; rcases hc with rfl | rfl | rfl | rfl | rfl <;> first | exact ⟨_, _, _, rfl⟩ | exact ⟨_, _, rfl⟩ | trivial, trivial⟩⟩
    ·conv => whnf
     refine ⟨⟨trivial, fun w' hw => hw.fr⟩, ?_⟩; conv => whnf
     refine ⟨?_, trivial⟩; conv => whnf
     refine ansR_call b45 (rd1 (nopI _)) (fun w' hw => cloneI_c ks [] kv w' (hk.ext hw.fr) hkl) ?_
     intro k2; conv => whnf
     refine ⟨⟨trivial, fun w' hw => hw.fr⟩, ?_⟩; conv => whnf
     refine ⟨?_, trivial⟩; conv => whnf
     refine ans_call (r := .x (.slice none 0 0)) b168 rfl (fun w' _ => cloneLots_nil w') ?_; conv => whnf
     refine ⟨⟨trivial, fun w' hw => hw.fr⟩, ?_⟩; conv => whnf
     refine ⟨?_, trivial⟩; conv => whnf
     refine ansR_call b169 (rd1 (nopVo _)) (fun w' hw => cloneVo_c vo vv w' (hv.ext hw.fr) hvl) ?_
     intro v2; conv => whnf
     refine ⟨⟨trivial, fun w' hw => hw.fr⟩, ?_⟩; conv => whnf
     refine ⟨?_, trivial⟩; conv => whnf
     refine ⟨⟨trivial, fun w' hw => hw.fr⟩, ?_⟩; conv => whnf
     refine ⟨?_, trivial⟩; conv => whnf
     refine ⟨rfl, ?_⟩; conv => whnf
     refine ⟨⟨trivial, fun w' hw => hw.fr⟩, ?_⟩; conv => whnf
     refine ⟨?_, trivial⟩; conv => whnf
     refine ⟨⟨trivial, fun w' hw => hw.fr⟩, ?_⟩; conv => whnf
     refine At.meet fun w' hw => ⟨(k2, v2), trivial, Le.of rfl rfl ⟨rfl, rfl, trivial⟩, hw.keep [3, 2, 1, 0] rfl rfl rfl, ⟨⟨_, _, rfl⟩, ⟨_, _, rfl⟩, trivial⟩, ⟨(nopVo _).okH, (nopI _).okH, fun c hc => by simp at hc; rcases hc with rfl | rfl | rfl | rfl | rfl <;> first | exact ⟨_, _, _, rfl⟩ | exact ⟨_, _, rfl⟩ | trivial, trivial⟩⟩
  ·conv => whnf
   refine ⟨⟨trivial, fun w' hw => hw.fr⟩, ?_⟩; conv => whnf
   refine ⟨?_, ?_, trivial⟩
   ·conv => whnf
    refine ⟨⟨trivial, fun w' hw => hw.fr⟩, ?_⟩; conv => whnf
    refine ⟨?_, ?_, trivial⟩
    ·conv => whnf
     refine ansR_call b45 (rd1 (nopI _)) (fun w' hw => cloneI_c ks [] kv w' (hk.ext hw.fr) hkl) ?_
     intro k2; conv => whnf
     refine ⟨⟨trivial, fun w' hw => hw.fr⟩, ?_⟩; conv => whnf
     refine ⟨?_, ?_, trivial⟩
     ·conv => whnf
      refine ans_call (r := .x (.slice none 0 0)) b168 rfl (fun w' _ => cloneLots_nil w') ?_; conv => whnf
      refine ⟨⟨trivial, fun w' hw => hw.fr⟩, ?_⟩; conv => whnf
      refine ⟨?_, trivial⟩; conv => whnf
      refine ⟨⟨trivial, fun w' hw => hw.fr⟩, ?_⟩; conv => whnf
      refine ⟨?_, trivial⟩; conv => whnf
      refine ansR_call b169 (rd1 (nopVo _)) (fun w' hw => cloneVo_c vo vv w' (hv.ext hw.fr) hvl) ?_
      intro v2; conv => whnf
      refine ⟨⟨trivial, fun w' hw => hw.fr⟩, ?_⟩; conv => whnf
      refine ⟨?_, trivial⟩; conv => whnf
      refine ⟨⟨trivial, fun w' hw => hw.fr⟩, ?_⟩; conv => whnf
      refine ⟨?_, trivial⟩; conv => whnf
      refine ⟨rfl, ?_⟩; conv => whnf
      refine ⟨⟨trivial, fun w' hw => hw.fr⟩, ?_⟩; conv => whnf
      refine ⟨?_, trivial⟩; conv => whnf
      refine ⟨⟨trivial, fun w' hw => hw.fr⟩, ?_⟩; conv => whnf
      refine At.meet fun w' hw => ⟨(k2, v2), trivial, Le.of rfl rfl ⟨rfl, rfl, trivial⟩, hw.keep [3, 2, 1, 0] rfl rfl rfl, ⟨⟨_, _, rfl⟩, ⟨_, _, rfl⟩, trivial⟩, ⟨(nopVo _).okH, (nopI _).okH, fun c hc => by simp at hc; rcases hc with rfl | rfl | rfl | rfl | rfl <;> first | exact ⟨_, _, _, rfl⟩ | exact ⟨_, _, rfl⟩ | trivial, trivial⟩⟩
     ·conv => whnf
      refine ⟨⟨trivial, fun w' hw => hw.fr⟩, ?_⟩; conv => whnf
      refine ⟨?_, trivial⟩; conv => whnf
      refine ans_call (r := .x (.slice none 0 0)) b168 rfl (fun w' _ => cloneLots_nil w') ?_; conv => whnf
      refine ⟨⟨trivial, fun w' hw => hw.fr⟩, ?_⟩; conv => whnf
      refine ⟨?_, trivial⟩; conv => whnf
      refine ansR_call b169 (rd1 (nopVo _)) (fun w' hw => cloneVo_c vo vv w' (hv.ext hw.fr) hvl) ?_
      intro v2; conv => whnf
      refine ⟨⟨trivial, fun w' hw => hw.fr⟩, ?_⟩; conv => whnf
      refine ⟨?_, trivial⟩; conv => whnf
      refine ⟨⟨trivial, fun w' hw => hw.fr⟩, ?_⟩; conv => whnf
      refine ⟨?_, trivial⟩; conv => whnf
      refine ⟨rfl, ?_⟩; conv => whnf
      refine ⟨⟨trivial, fun w' hw => hw.fr⟩, ?_⟩; conv => whnf
      refine ⟨?_, trivial⟩; conv => whnf
      refine ⟨⟨trivial, fun w' hw => hw.fr⟩, ?_⟩; conv => whnf
      refine At.meet fun w' hw => ⟨(k2, v2), trivial, Le.of rfl rfl ⟨rfl, rfl, trivial⟩, hw.keep [3, 2, 1, 0] rfl rfl rfl, ⟨⟨_, _, rfl⟩, ⟨_, _, rfl⟩, trivial⟩, ⟨(nopVo _).okH, (nopI _).okH, fun c hc => by simp at hc; rcases hc with rfl | rfl | rfl | rfl | rfl <;> first | exact ⟨_, _, _, rfl⟩ | exact ⟨_, _, rfl⟩ | trivial, trivial⟩⟩
    ·conv => whnf
     refine ⟨⟨trivial, fun w' hw => hw.fr⟩, ?_⟩; conv => whnf
     refine ⟨?_, trivial⟩; conv => whnf
     refine ansR_call b45 (rd1 (nopI _)) (fun w' hw => cloneI_c ks [] kv w' (hk.ext hw.fr) hkl) ?_
     intro k2; conv => whnf
     refine ⟨⟨trivial, fun w' hw => hw.fr⟩, ?_⟩; conv => whnf
     refine ⟨?_, trivial⟩; conv => whnf
     refine ans_call (r := .x (.slice none 0 0)) b168 rfl (fun w' _ => cloneLots_nil w') ?_; conv => whnf
     refine ⟨⟨trivial, fun w' hw => hw.fr⟩, ?_⟩; conv => whnf
     refine ⟨?_, trivial⟩; conv => whnf
     refine ansR_call b169 (rd1 (nopVo _)) (fun w' hw => cloneVo_c vo vv w' (hv.ext hw.fr) hvl) ?_
     intro v2; conv => whnf
     refine ⟨⟨trivial, fun w' hw => hw.fr⟩, ?_⟩; conv => whnf
     refine ⟨?_, trivial⟩; conv => whnf
     refine ⟨⟨trivial, fun w' hw => hw.fr⟩, ?_⟩; conv => whnf
     refine ⟨?_, trivial⟩; conv => whnf
     refine ⟨rfl, ?_⟩; conv => whnf
     refine ⟨⟨trivial, fun w' hw => hw.fr⟩, ?_⟩; conv => whnf
     refine ⟨?_, trivial⟩; conv => whnf
     refine ⟨⟨trivial, fun w' hw => hw.fr⟩, ?_⟩; conv => whnf
     refine At.meet fun w' hw => ⟨(k2, v2), trivial, Le.of rfl rfl ⟨rfl, rfl, trivial⟩, hw.keep [3, 2, 1, 0] rfl rfl rfl, ⟨⟨_, _, rfl⟩, ⟨_, _, rfl⟩, trivial⟩, ⟨(nopVo _).okH, (nopI _).okH, fun c hc => by simp at hc; rcases hc with rfl | rfl | rfl | rfl | rfl <;> first | exact ⟨_, _, _, rfl⟩ | exact ⟨_, _, rfl⟩ | trivial, trivial⟩⟩
   ·conv => whnf
    refine ⟨⟨trivial, fun w' hw => hw.fr⟩, ?_⟩; conv => whnf
    refine ⟨?_, trivial⟩; conv => whnf
    refine ⟨⟨trivial, fun w' hw => hw.fr⟩, ?_⟩; conv => whnf
    refine ⟨?_, trivial⟩; conv => whnf
    refine ansR_call b45 (rd1 (nopI _)) (fun w' hw => cloneI_c ks [] kv w' (hk.ext hw.fr) hkl) ?_
    intro k2; conv => whnf
    refine ⟨⟨trivial, fun w' hw => hw.fr⟩, ?_⟩; conv => whnf
    refine ⟨?_, trivial⟩; conv => whnf
    refine ans_call (r := .x (.slice none 0 0)) b168 rfl (fun w' _ => cloneLots_nil w') ?_; conv => whnf
    refine ⟨⟨trivial, fun w' hw => hw.fr⟩, ?_⟩; conv => whnf
    refine ⟨?_, trivial⟩; conv => whnf
    refine ansR_call b169 (rd1 (nopVo _)) (fun w' hw => cloneVo_c vo vv w' (hv.ext hw.fr) hvl) ?_
    intro v2; conv => whnf
    refine ⟨⟨trivial, fun w' hw => hw.fr⟩, ?_⟩; conv => whnf
    refine ⟨?_, trivial⟩; conv => whnf
    refine ⟨⟨trivial, fun w' hw => hw.fr⟩, ?_⟩; conv => whnf
    refine ⟨?_, trivial⟩; conv => whnf
    refine ⟨rfl, ?_⟩; conv => whnf
    refine ⟨⟨trivial, fun w' hw => hw.fr⟩, ?_⟩; conv => whnf
    refine ⟨?_, trivial⟩; conv => whnf
    refine ⟨⟨trivial, fun w' hw => hw.fr⟩, ?_⟩; conv => whnf
    refine At.meet fun w' hw => ⟨(k2, v2), trivial, Le.of rfl rfl ⟨rfl, rfl, trivial⟩, hw.keep [3, 2, 1, 0] rfl rfl rfl, ⟨⟨_, _, rfl⟩, ⟨_, _, rfl⟩, trivial⟩, ⟨(nopVo _).okH, (nopI _).okH, fun c hc => by simp at hc; rcases hc with rfl | rfl | rfl | rfl | rfl <;> first | exact ⟨_, _, _, rfl⟩ | exact ⟨_, _, rfl⟩ | trivial, trivial⟩⟩
  ·conv => whnf
   refine ⟨⟨trivial, fun w' hw => hw.fr⟩, ?_⟩; conv => whnf
   refine ⟨?_, ?_, trivial⟩
   ·conv => whnf
    refine ⟨⟨trivial, fun w' hw => hw.fr⟩, ?_⟩; conv => whnf
    refine ⟨?_, ?_, trivial⟩
    ·conv => whnf
     refine ansR_call b45 (rd1 (nopI _)) (fun w' hw => cloneI_c ks [] kv w' (hk.ext hw.fr) hkl) ?_
     intro k2; conv => whnf
     refine ⟨⟨trivial, fun w' hw => hw.fr⟩, ?_⟩; conv => whnf
     refine ⟨?_, trivial⟩; conv => whnf
     refine ⟨⟨trivial, fun w' hw => hw.fr⟩, ?_⟩; conv => whnf
     refine ⟨?_, trivial⟩; conv => whnf
     refine ans_call (r := .x (.slice none 0 0)) b168 rfl (fun w' _ => cloneLots_nil w') ?_; conv => whnf
     refine ⟨⟨trivial, fun w' hw => hw.fr⟩, ?_⟩; conv => whnf
     refine ⟨?_, trivial⟩; conv => whnf
     refine ansR_call b169 (rd1 (nopVo _)) (fun w' hw => cloneVo_c vo vv w' (hv.ext hw.fr) hvl) ?_
     intro v2; conv => whnf
     refine ⟨⟨trivial, fun w' hw => hw.fr⟩, ?_⟩; conv => whnf
     refine ⟨?_, trivial⟩; conv => whnf
     refine ⟨⟨trivial, fun w' hw => hw.fr⟩, ?_⟩; conv => whnf
     refine ⟨?_, trivial⟩; conv => whnf
     refine ⟨rfl, ?_⟩; conv => whnf
     refine ⟨⟨trivial, fun w' hw => hw.fr⟩, ?_⟩; conv => whnf
     refine ⟨?_, trivial⟩; conv => whnf
     refine ⟨⟨trivial, fun w' hw => hw.fr⟩, ?_⟩; conv => whnf
     refine At.meet fun w' hw => ⟨(k2, v2), trivial, Le.of rfl rfl ⟨rfl, rfl, trivial⟩, hw.keep [3, 2, 1, 0] rfl rfl rfl, ⟨⟨_, _, rfl⟩, ⟨_, _, rfl⟩, trivial⟩, ⟨(nopVo _).okH, (nopI _).okH, fun c hc => by simp at hc; rcases hc with rfl | rfl | rfl | rfl | rfl <;> first | exact ⟨_, _, _, rfl⟩ | exact ⟨_, _, rfl⟩ | trivial, trivial⟩⟩
    ·conv => whnf
     refine ⟨⟨trivial, fun w' hw => hw.fr⟩, ?_⟩; conv => whnf
     refine ⟨?_, trivial⟩; conv => whnf
     refine ansR_call b45 (rd1 (nopI _)) (fun w' hw => cloneI_c ks [] kv w' (hk.ext hw.fr) hkl) ?_
     intro k2; conv => whnf
     refine ⟨⟨trivial, fun w' hw => hw.fr⟩, ?_⟩; conv => whnf
     refine ⟨?_, trivial⟩; conv => whnf
     refine ans_call (r := .x (.slice none 0 0)) b168 rfl (fun w' _ => cloneLots_nil w') ?_; conv => whnf
     refine ⟨⟨trivial, fun w' hw => hw.fr⟩, ?_⟩; conv => whnf
     refine ⟨?_, trivial⟩; conv => whnf
     refine ansR_call b169 (rd1 (nopVo _)) (fun w' hw => cloneVo_c vo vv w' (hv.ext hw.fr) hvl) ?_
     intro v2; conv => whnf
     refine ⟨⟨trivial, fun w' hw => hw.fr⟩, ?_⟩; conv => whnf
     refine ⟨?_, trivial⟩; conv => whnf
     refine ⟨⟨trivial, fun w' hw => hw.fr⟩, ?_⟩; conv => whnf
     refine ⟨?_, trivial⟩; conv => whnf
     refine ⟨rfl, ?_⟩; conv => whnf
     refine ⟨⟨trivial, fun w' hw => hw.fr⟩, ?_⟩; conv => whnf
     refine ⟨?_, trivial⟩; conv => whnf
     refine ⟨⟨trivial, fun w' hw => hw.fr⟩, ?_⟩; conv => whnf
     refine At.meet fun w' hw => ⟨(k2, v2), trivial, Le.of rfl rfl ⟨rfl, rfl, trivial⟩, hw.keep [3, 2, 1, 0] rfl rfl rfl, ⟨⟨_, _, rfl⟩, ⟨_, _, rfl⟩, trivial⟩, ⟨(nopVo _).okH, (nopI _).okH, fun c hc => by simp at hc; rcases hc with rfl | rfl | rfl | rfl | rfl <;> first | exact ⟨_, _, _, rfl⟩ | exact ⟨_, _, rfl⟩ | trivial, trivial⟩⟩
   ·conv => whnf
    refine ⟨⟨trivial, fun w' hw => hw.fr⟩, ?_⟩; conv => whnf
    refine ⟨?_, trivial⟩; conv => whnf
    refine ⟨⟨trivial, fun w' hw => hw.fr⟩, ?_⟩; conv => whnf
    refine ⟨?_, trivial⟩; conv => whnf
    refine ansR_call b45 (rd1 (nopI _)) (fun w' hw => cloneI_c ks [] kv w' (hk.ext hw.fr) hkl) ?_
    intro k2; conv => whnf
    refine ⟨⟨trivial, fun w' hw => hw.fr⟩, ?_⟩; conv => whnf
    refine ⟨?_, trivial⟩; conv => whnf
    refine ans_call (r := .x (.slice none 0 0)) b168 rfl (fun w' _ => cloneLots_nil w') ?_; conv => whnf
    refine ⟨⟨trivial, fun w' hw => hw.fr⟩, ?_⟩; conv => whnf
    refine ⟨?_, trivial⟩; conv => whnf
    refine ansR_call b169 (rd1 (nopVo _)) (fun w' hw => cloneVo_c vo vv w' (hv.ext hw.fr) hvl) ?_
    intro v2; conv => whnf
    refine ⟨⟨trivial, fun w' hw => hw.fr⟩, ?_⟩; conv => whnf
    refine ⟨?_, trivial⟩; conv => whnf
    refine ⟨⟨trivial, fun w' hw => hw.fr⟩, ?_⟩; conv => whnf
    refine ⟨?_, trivial⟩; conv => whnf
    refine ⟨rfl, ?_⟩; conv => whnf
    refine ⟨⟨trivial, fun w' hw => hw.fr⟩, ?_⟩; conv => whnf
    refine ⟨?_, trivial⟩; conv => whnf
    refine ⟨⟨trivial, fun w' hw => hw.fr⟩, ?_⟩; conv => whnf
    refine At.meet fun w' hw => ⟨(k2, v2), trivial, Le.of rfl rfl ⟨rfl, rfl, trivial⟩, hw.keep [3, 2, 1, 0] rfl rfl rfl, ⟨⟨_, _, rfl⟩, ⟨_, _, rfl⟩, trivial⟩, ⟨(nopVo _).okH, (nopI _).okH, fun c hc => by simp at hc; rcases hc with rfl | rfl | rfl | rfl | rfl <;> first | exact ⟨_, _, _, rfl⟩ | exact ⟨_, _, rfl⟩ | trivial, trivial⟩⟩
 rintro ⟨k2, v2⟩ _
 simp only
 repeat refine zq ?_
 refine zr ?_; conv => whnf
 refine ans_call (r := .x (.slice none 0 0)) b170 rfl (fun w' _ => cloneCirc_nil w') ?_; conv => whnf
 refine ⟨rfl, ?_⟩; conv => whnf
 repeat refine zq ?_
 refine zr ?_; conv => whnf
 refine ⟨nilSl, ?_⟩; conv => whnf
 repeat refine zq ?_
 refine At.block ?_
 refine At.loopH (fun u : Nat => { N := Tryz.f132.ntmps, sl := [(1, some (.s (.c (.p 0 b1 0)))), (2, some (.s (.c (.p 1 b2 0)))), (23, some (.i 0)), (24, some (.i 0))], gl := [], hp := [(3, .row v2 193 2 (vo.map encVo)), (2, .row k2 3 1 (ks.map encI)), (1, .box b2 115 [.i 0, .x (.slice none 0 0), .x (.slice none 0 0), .x (.slice none 0 0), .x (.slice none 0 0)]), (0, .box b1 115 [.i 0, .o 2 k2, .x (.slice none 0 0), .x (.slice none 0 0), .o 3 v2])], S := [], ws := w }) (fun u : Nat => True) (fun u : Nat => 0)
  (fun w' hw => ⟨0, trivial, Le.of rfl rfl ⟨rfl, rfl, rfl, rfl, trivial⟩, hw.keep [3, 2, 1, 0] rfl rfl rfl, ⟨⟨_, _, rfl⟩, ⟨_, _, rfl⟩, trivial⟩, ⟨(nopVo _).okH, (nopI _).okH, fun c hc => by simp at hc; rcases hc with rfl | rfl | rfl | rfl | rfl <;> first | exact ⟨_, _, _, rfl⟩ | exact ⟨_, _, rfl⟩ | trivial, trivial⟩⟩) ?_
 intro u _
 repeat refine zq ?_
 refine zr ?_; conv => whnf
 repeat refine zq ?_
 refine At.cond rfl (fun hq => ?_) (fun _ => At.exit ?_)
 ·exact absurd (of_decide_eq_true hq) (by decide)
 repeat refine zq ?_
 refine zr ?_; conv => whnf
 refine ⟨rfl, ?_⟩; conv => whnf
 refine ⟨rfl, ?_⟩; conv => whnf
 repeat refine zq ?_
 refine At.ret (At.doneB tab_ok hB _ rfl fun w' hw => ⟨vo, k2, v2, rfl, rfl, rows2_of hw (i := 2) (j := 3) rfl rfl (by decide) rfl rfl⟩)
theorem begin_c (ks : List Int) (skv : Value) (liars seed : Int) (w : World) (hk : SlOf intT [] w skv ks) (hkl : ks.length ≤ 1000000) : StF 79 [vSt skv liars seed] ks (fun vo' => vo' = []) w := by
 refine calls_e [.s (.agg (encSt skv liars seed))] Tryz.func79 rfl rfl (Nat.le_of_ble_eq_true rfl) trivial fun B hB => ?_
 repeat refine zq ?_
 refine zr ?_; conv => whnf
 refine ⟨hk.one, ?_⟩; conv => whnf
 intro b1; conv => whnf
 intro b2; conv => whnf
 repeat refine zq ?_
 refine zr ?_; conv => whnf
 refine ansR_call b45 (rd1 (nopI _)) (fun w' hw => cloneI_c ks [] skv w' (hk.ext hw.fr) hkl) ?_
 intro k2; conv => whnf
 refine ⟨rfl, ?_⟩; conv => whnf
 refine ⟨rfl, ?_⟩; conv => whnf
 refine ⟨rfl, ?_⟩; conv => whnf
 repeat refine zq ?_
 refine At.ret (At.doneB tab_ok hB _ rfl fun w' hw => ?_)
 exact ⟨[], k2, .slice none 0 0, rfl, rfl, ⟨hw.row (id := 2) rfl, nil_holds, fun b hb => by
  rcases hb with hb | hb
  ·exact (hw.fresh (id := 2) rfl b hb).elim (fun h => by cases h) _root_.id
  ·simp [blkOf] at hb, fun b _ hb => by simp [blkOf] at hb⟩, hw.fr⟩
abbrev EnF (f : FuncId) (args : List Value) (ks : List Int) (er : Int) (Pv : List (Int × Int) → Prop) (w : World) : Prop :=
 Calls Tryz.prog f args.toArray w (fun e w' => ∃ vo k v, Pv vo ∧ e = .returned (.tuple #[vStt k v, vI er]) ∧ Rows2 ks vo w.heap.size w' k v ∧ Ext w w')
theorem box_run {w : World} {b : Nat} {S : List Nat} {p : RunP} (hb : w.heap[b]? = some (.cells (dens (encRun p)).toArray 189 (0, 0))) (hS : b ∉ S) : SlOf runT S w (hs b) [p] := by
 have hrow : (LO.row (hs b) 189 9 ([p].map encRun)).holds w := ⟨⟨rfl, .inr ⟨b, 0, 1, _, rfl, hb, Nat.le_refl 1, by unfold maxLen; omega, by simp [dens], rfl⟩⟩, fun l hl => by rw [List.mem_singleton.1 hl]; rfl⟩
 exact SlOf.of_row (enc := encRun) hrow (fun b' hb' => by simp only [hs, blkOf, List.mem_singleton] at hb'; rw [hb']; exact hS) (by simp)
theorem ent_l {N : List Nd} (hN : NOk N) (mk : Int) : (entB N mk).knows.length ≤ 1000000 ∧ (entB N mk).keys.length ≤ 1000000 ∧ (entB N mk).spans.length ≤ 1000000 := by
 unfold entB
 cases h : alook (hidx N) mk with
 | none => exact ⟨by simp [zeroE], by simp [zeroE], by simp [zeroE]⟩
 | some i =>
  obtain ⟨j, n, rfl, hj, _, e⟩ := hidx_spec h
  have := (hN.nd j n hj).2.2.2.2.1
  show (nodeAt N (j : Int)).e.knows.length ≤ 1000000 ∧ (nodeAt N (j : Int)).e.keys.length ≤ 1000000 ∧ (nodeAt N (j : Int)).e.spans.length ≤ 1000000
  rw [e]
  exact ⟨this.lk, this.ly, this.ls⟩
theorem ent_lk {N : List Nd} (hN : NOk N) (mk : Int) : (entB N mk).knows.length ≤ 1000000 := (ent_l hN mk).1
theorem ent_ly {N : List Nd} (hN : NOk N) (mk : Int) : (entB N mk).keys.length ≤ 1000000 := (ent_l hN mk).2.1
theorem ent_ls {N : List Nd} (hN : NOk N) (mk : Int) : (entB N mk).spans.length ≤ 1000000 := (ent_l hN mk).2.2
theorem errJ_ne (ks : List Int) (a : Int) : errJ ks a ≠ 0 := by unfold errJ; split <;> decide
theorem entry_join (h rb : Nat) (N : List Nd) (hN : NOk N) (mk : Int) (hal : (alook (hidx N) mk).isSome = true) (hk1 : (entB N mk).kind = 1) (ks : List Int) (vo : List (Int × Int)) (kv vv skv : Value) (liars seed : Int) (w : World) (H : HR [] w h rb N)
  (hk : SlOf intT [] w kv ks) (hv : SlOf voT [] w vv vo) (hsk : skv.oneCell' = true) (hkl : ks.length ≤ 1000000) (hvl : vo.length ≤ 100000) :
  EnF 81 [vStt kv vv, vSt skv liars seed, ptr h, vI mk] ks (errJ ks (entB N mk).author) (fun vo' => vo' = vo ++ [(mk, errJ ks (entB N mk).author)]) w := by
 refine calls_e [.s (.agg (encStt kv vv)), .s (.agg (encSt skv liars seed)), .x (ptr h), .i mk] Tryz.func81 rfl rfl (Nat.le_of_ble_eq_true rfl) trivial fun B hB => ?_
 repeat refine zq ?_
 refine zr ?_; conv => whnf
 refine ⟨hk.one, ?_⟩; conv => whnf
 refine ⟨rfl, ?_⟩; conv => whnf
 refine ⟨rfl, ?_⟩; conv => whnf
 refine ⟨hv.one, ?_⟩; conv => whnf
 intro b4; conv => whnf
 refine ⟨hsk, ?_⟩; conv => whnf
 intro b5; conv => whnf
 intro b8; conv => whnf
 repeat refine zq ?_
 refine At.join (fun p' : Nat × Value × Value => { N := Tryz.f81.ntmps, sl := [(2, some (.x ((ptr h)))), (3, some (.i mk)), (8, some (.s (.c (.p 2 b8 0)))), (10, some (.s (.c (.p 5 p'.1 0))))], gl := [], hp := [(5, .box p'.1 189 [.i 0, .o 3 p'.2.1, .x (.slice none 0 0), .x (.slice none 0 0), .o 4 p'.2.2, .x skv, .i liars, .i seed, .x (ptr h)]), (4, .row p'.2.2 193 2 (vo.map encVo)), (3, .row p'.2.1 3 1 (ks.map encI)), (2, .box b8 115 [.i 0, .x (.slice none 0 0), .x (.slice none 0 0), .x (.slice none 0 0), .x (.slice none 0 0)])], S := [], ws := w }) (fun p' : Nat × Value × Value => True) ?_ ?_
 ·repeat refine zq ?_
  refine At.planG tab_ok mixed [(0, LO.box b4 115 (encStt kv vv)), (1, LO.box b5 53 (encSt skv liars seed))] (.take 0 (.take 2 (.take 3 (.br 1 (.take 4 (.br 5 (.take 6 (.done)) (.nob))) (.nob))))) (by kernel_rfl) (by kernel_rfl) ⟨rfl, rfl, trivial⟩ ?_; conv => whnf
  refine ⟨?_, trivial⟩; conv => whnf
  refine rows2_call (ks := ks) (fun vo' => vo' = vo) fSt vStt (fun _ _ _ _ => rfl) fSt_ok b132 (fun w' hw => copySt_c ks vo kv vv w' (hk.ext hw.fr) (hv.ext hw.fr) hkl (by omega)) ?_
  rintro vo' k2 v2 rfl
  conv => whnf
  refine ⟨⟨⟨rfl, rfl, trivial⟩, fun w' hw => hw.fr⟩, ?_⟩; conv => whnf
  repeat (first | (refine ⟨rfl, ?_⟩; conv => whnf) | (refine ⟨hsk, ?_⟩; conv => whnf))
  refine ⟨?_, trivial⟩; conv => whnf
  repeat (first | (refine ⟨rfl, ?_⟩; conv => whnf) | (refine ⟨hsk, ?_⟩; conv => whnf))
  intro b10; conv => whnf
  refine ⟨⟨⟨rfl, rfl, trivial⟩, fun w' hw => hw.fr⟩, ?_⟩; conv => whnf
  refine At.meet fun w' hw => ⟨(b10, k2, v2), trivial, Le.of rfl rfl ⟨rfl, rfl, rfl, rfl, trivial⟩, hw.keep [5, 4, 3, 2] rfl rfl rfl, ⟨⟨_, _, rfl⟩, ⟨_, _, rfl⟩, trivial⟩, ⟨fun c hc => by simp at hc; rcases hc with rfl | rfl | rfl | rfl | rfl | rfl | rfl | rfl | rfl <;> first | exact ⟨_, _, _, rfl⟩ | exact ⟨_, _, rfl⟩ | trivial, (nopVo _).okH, (nopI _).okH, trivial⟩⟩
 rintro ⟨b10, k2, v2⟩ _
 simp only
 repeat refine zq ?_
 refine zr ?_; conv => whnf
 refine entry_call (h := h) (rb := rb) (N := N) (mk := mk) hN (fun w' hw => H.ext hw.fr) ?_
 intro k6 y7 s8; conv => whnf
 intro b11; conv => whnf
 rw [hal]
 repeat refine zq ?_
 refine zr ?_; conv => whnf
 repeat refine zq ?_
 refine At.cond (t := false) rfl (fun hq => by cases hq) (fun _ => At.skip ?_)
 repeat refine zq ?_
 refine zr ?_; conv => whnf
 refine ans_call (r := .b (silentB (entB N mk).kind)) b133 rfl (fun w' _ => silent_c _ w') ?_; conv => whnf
 repeat refine zq ?_
 refine At.cond (t := silentB (entB N mk).kind) rfl (fun hq => by rw [hk1] at hq; cases hq) (fun _ => At.skip ?_)
 repeat refine zq ?_
 refine zr ?_; conv => whnf
 refine ans_call (r := .tup [.c (.i (-1)), .c (.i (errJ ks (entB N mk).author))]) b134 rfl (fun w' hw => fails_join b10 (k2, v2, skv, liars, seed, h) ks (entB N mk) mk k6 y7 s8 w' (box_run (by have := hw.box (id := 5) rfl; exact this) nilS) (slI _ (hw.row (id := 3) rfl) hkl) ⟨slI _ (hw.row (id := 6) rfl) (ent_lk hN mk), slI _ (hw.row (id := 7) rfl) (ent_ly hN mk), slS _ (hw.row (id := 8) rfl) (ent_ls hN mk)⟩ hk1) ?_; conv => whnf
 have hne := errJ_ne ks (entB N mk).author
 generalize her : errJ ks (entB N mk).author = er at hne ⊢
 repeat refine zq ?_
 refine zr ?_; conv => whnf
 repeat refine zq ?_
 refine At.cond rfl (fun _ => ?_) (fun hq => absurd (by simpa using hq) hne)
 repeat refine zq ?_
 refine zr ?_; conv => whnf
 intro v9; conv => whnf
 refine ⟨rfl, ?_⟩; conv => whnf
 refine ⟨⟨rfl, by simp; omega⟩, ?_⟩; conv => whnf
 intro v10; conv => whnf
 repeat refine zq ?_
 refine zr ?_; conv => whnf
 refine ⟨rfl, ?_⟩; conv => whnf
 refine ⟨rfl, ?_⟩; conv => whnf
 repeat refine zq ?_
 refine At.ret (At.doneB tab_ok hB _ rfl fun w' hw => ?_)
 subst her
 exact ⟨vo ++ [(mk, errJ ks (entB N mk).author)], k2, v10, rfl, rfl, by
  have e : (vo ++ [(mk, errJ ks (entB N mk).author)]).map encVo = vo.map encVo ++ [encVo (mk, errJ ks (entB N mk).author)] := by simp
  exact rows2_of hw (i := 3) (j := 4) rfl (by rw [e]; rfl) (by decide) rfl rfl⟩
end Go.Proofs.YtdigebokbhmfaaaGreatDoor.Ap
namespace Go.Vc
theorem Holds.swapK {st st' : St} {w : World} (h : Holds st w) (ids : List Nat) (a b c : List LO) (h1 : (keepIds ids st.hp).map Prod.snd = a ++ (b ++ c)) (h2 : st'.hp.map Prod.snd = b ++ (a ++ c)) (h3 : st'.S = st.S) (h4 : st'.ws = st.ws) : Holds st' w := by
 have hk : Holds { st with hp := keepIds ids st.hp } w := h.keep ids rfl rfl rfl
 refine hk.renP ?_ h3 h4
 show List.Perm (st'.hp.map Prod.snd) ((keepIds ids st.hp).map Prod.snd)
 rw [h2, h1, ← List.append_assoc, ← List.append_assoc]
 exact List.perm_append_comm.append_right c
end Go.Vc
namespace Go.Proofs.YtdigebokbhmfaaaGreatDoor.Ap
open Go.Vc Rt Go.Bs
set_option maxHeartbeats 1000000
theorem sorted_al {N : List Nd} {x : Int} (h : x ∈ sortedB N) : (alook (hidx N) x).isSome = true := by
 rw [alook_isSome, hidx_keys]
 exact (marks_perm N).mem_iff.1 (sorted_mem.1 h)
def voidsL (N : List Nd) (ks : List Int) (l : List Int) : List (Int × Int) := l.map fun m => (m, errJ ks (entB N m).author)
def voidsB (N : List Nd) (ks : List Int) : List (Int × Int) := voidsL N ks (sortedB N)
theorem voidsL_snoc {N : List Nd} {ks l : List Int} {k : Nat} {x : Int} (hx : l[k]? = some x) : voidsL N ks (l.take (k + 1)) = voidsL N ks (l.take k) ++ [(x, errJ ks (entB N x).author)] := by
 unfold voidsL; rw [take_snoc hx, List.map_append]; rfl
theorem all_c (h rb : Nat) (N : List Nd) (hN : NOk N) (hJ : ∀ x ∈ marksB N, (entB N x).kind = 1) (ks : List Int) (skv : Value) (liars seed : Int) (hr : rightS ks liars seed = true) (w : World) (H : HR [] w h rb N) (hk : SlOf intT [] w skv ks) (hkl : ks.length ≤ 1000000) :
  StF 53 [ptr h, vSt skv liars seed] ks (fun vo' => vo' = voidsB N ks) w := by
 have hNl := hN.len
 have hsl := sortedB_len N
 refine calls_e [.x (ptr h), .s (.agg (encSt skv liars seed))] Tryz.func53 rfl rfl (Nat.le_of_ble_eq_true rfl) trivial fun B hB => ?_
 repeat refine zq ?_
 refine zr ?_; conv => whnf
 refine ⟨hk.one, ?_⟩; conv => whnf
 intro b3; conv => whnf
 intro b4; conv => whnf
 repeat refine zq ?_
 refine zr ?_; conv => whnf
 refine ans_call (r := .b (rightS ks liars seed)) b51 rfl (fun w' hw => rightS_c ks liars seed [] skv w' (hk.ext hw.fr) hkl) ?_
 rw [hr]
 conv => whnf
 repeat refine zq ?_
 refine At.cond (t := false) rfl (fun hq => by cases hq) (fun _ => At.skip ?_)
 repeat refine zq ?_
 refine zr ?_; conv => whnf
 refine rows2_call (ks := ks) (fun vo' => vo' = []) fSt vStt (fun _ _ _ _ => rfl) fSt_ok b79 (fun w' hw => begin_c ks skv liars seed w' (hk.ext hw.fr) hkl) ?_
 rintro vo' k2 v2 rfl
 conv => whnf
 intro b5; conv => whnf
 refine ⟨rfl, ?_⟩; conv => whnf
 refine ⟨rfl, ?_⟩; conv => whnf
 repeat refine zq ?_
 refine zr ?_; conv => whnf
 refine ansR_call b80 (rd1p (nopI _) rfl) (fun w' hw => sequence_r h rb N hN (fun x hx => by rw [hJ x hx]; exact ⟨by decide, by decide, by decide⟩) ks skv liars seed w' (H.ext hw.fr) (hk.ext hw.fr) hkl) ?_
 intro vs; conv => whnf
 repeat refine zq ?_
 refine zr ?_; conv => whnf
 repeat refine zq ?_
 refine zr ?_; conv => whnf
 refine ⟨rfl, ?_⟩; conv => whnf
 intro v6; conv => whnf
 refine ⟨rfl, ?_⟩; conv => whnf
 refine ⟨by simp, ?_⟩; conv => whnf
 intro v7; conv => whnf
 refine ⟨rfl, ?_⟩; conv => whnf
 repeat refine zq ?_
 refine At.block ?_
 refine At.loop1 ?_
 repeat refine zq ?_
 refine zr ?_; conv => whnf
 repeat refine zq ?_
 refine At.cond rfl (fun hc => At.skip ?_) (fun hc => At.exit ?_)
 ·repeat refine zq ?_
  refine At.block ?_
  repeat refine zq ?_
  refine zr ?_; conv => whnf
  refine ⟨rfl, ?_⟩; conv => whnf
  refine ⟨by decide, ?_⟩; conv => whnf
  refine ⟨by simp, ?_⟩; conv => whnf
  refine ⟨[.i (sortedB N).length], ⟨rfl, rfl, by decide, by simp⟩, ?_⟩; conv => whnf
  repeat refine zq ?_
  refine At.block ?_
  refine At.loopH (fun p' : Nat × Value × Value => { N := Tryz.f53.ntmps, sl := [(0, some (.x ((ptr h)))), (3, some (.s (.c (.p 0 b3 0)))), (4, some (.s (.c (.p 1 b4 0)))), (5, some (.s (.c (.p 4 b5 0)))), (6, some (.s (.c (.o 5 vs)))), (7, some (.x ((.slice none 0 0)))), (8, some (.i p'.1)), (10, some (.i ((sortedB N).length))), (28, some (.i 1)), (29, some (.i 0))], gl := [], hp := [(3, .row p'.2.2 193 2 ((voidsL N ks ((sortedB N).take p'.1)).map encVo)), (2, .row p'.2.1 3 1 (ks.map encI)), (5, .row vs 3 1 ((sortedB N).map encI)), (4, .box b5 115 [.i 0, .o 2 p'.2.1, .x (.slice none 0 0), .x (.slice none 0 0), .o 3 p'.2.2]), (1, .box b4 115 [.i 0, .x (.slice none 0 0), .x (.slice none 0 0), .x (.slice none 0 0), .x (.slice none 0 0)]), (0, .box b3 53 (encSt skv liars seed))], S := [], ws := w }) (fun p' : Nat × Value × Value => p'.1 ≤ (sortedB N).length) (fun p' : Nat × Value × Value => (sortedB N).length - p'.1)
   (fun w' hw => ⟨(0, k2, v2), Nat.zero_le _, Le.of rfl rfl ⟨rfl, rfl, rfl, rfl, rfl, rfl, rfl, congrArg (Value.int .i64) (by simp), congrArg (Value.int .i64) (by simp), rfl, trivial⟩, hw.swapK [5, 4, 3, 2, 1, 0] [_, _] [_, _] [_, _] rfl rfl rfl rfl, ⟨⟨_, _, rfl⟩, ⟨_, _, rfl⟩, ⟨_, _, rfl⟩, ⟨_, _, _, rfl⟩, trivial⟩, ⟨(nopVo _).okH, (nopI _).okH, (nopI _).okH, fun c hc => by simp at hc; rcases hc with rfl | rfl | rfl | rfl | rfl <;> first | exact ⟨_, _, _, rfl⟩ | exact ⟨_, _, rfl⟩ | trivial, trivial⟩⟩) ?_
  rintro ⟨k, kv, vv⟩ hkk
  simp only at hkk ⊢
  repeat refine zq ?_
  refine zr ?_; conv => whnf
  repeat refine zq ?_
  refine At.cond rfl (fun hc => At.skip ?_) (fun hc => At.exit ?_)
  ·have hlt : k < (sortedB N).length := by have := of_decide_eq_true hc; omega
   obtain ⟨x, hx⟩ : ∃ x, (sortedB N)[k]? = some x := ⟨_, List.getElem?_eq_getElem hlt⟩
   have hlt : k < (sortedB N).length := by have := of_decide_eq_true hc; omega
   have hsn := voidsL_snoc (N := N) (ks := ks) hx
   have hxm := List.mem_of_getElem? hx
   have hvl : (voidsL N ks ((sortedB N).take k)).length ≤ k := by unfold voidsL; rw [List.length_map, List.length_take]; omega
   have hkx := hJ x (sorted_mem.1 hxm)
   have hax := sorted_al hxm
   repeat refine zq ?_
   refine At.block ?_
   repeat refine zq ?_
   refine At.planG tab_ok mixed [(0, .box b3 53 (encSt skv liars seed)), (5, .row vs 3 1 ((sortedB N).map encI))] (.take 1 (.take 2 (.take 3 (.take 4 (.take 5 (.take 6 (.br 0 (.br 7 (.take 8 (.take 9 (.take 10 (.br 11 (.done) (.nob))))) (.nob)) (.nob)))))))) (by kernel_rfl) (by kernel_rfl) ⟨rfl, rfl, trivial⟩ ?_; conv => whnf
   refine ⟨rfl, ?_⟩; conv => whnf
   refine ⟨by omega, ?_⟩; conv => whnf
   refine ⟨by (try simp only [List.length_map]); omega, ?_⟩; conv => whnf
   refine ⟨encI x, ⟨rfl, rfl, by omega, by rw [Int.toNat_natCast, List.getElem?_map, hx]; rfl⟩, ?_⟩; conv => whnf
   refine ⟨?_, trivial⟩; conv => whnf
   refine ⟨⟨⟨rfl, rfl, trivial⟩, fun w' hw => hw.fr⟩, ?_⟩; conv => whnf
   refine ⟨?_, trivial⟩; conv => whnf
   refine rows2_call (ks := ks) (fun vo' => vo' = voidsL N ks ((sortedB N).take k) ++ [(x, errJ ks (entB N x).author)]) (fSe (errJ ks (entB N x).author)) (fun k v => .tuple #[vStt k v, vI (errJ ks (entB N x).author)]) (fun _ _ _ _ => rfl) (fSe_ok _) b81 (fun w' hw => entry_join h rb N hN x hax hkx ks (voidsL N ks ((sortedB N).take k)) kv vv skv liars seed w' (H.ext hw.fr) (slI _ (hw.row (id := 2) rfl) hkl) (slVo _ (hw.row (id := 3) rfl) (by omega)) hk.one hkl (by omega)) ?_
   rintro vo' k2 v2 rfl
   conv => whnf
   refine ⟨⟨⟨rfl, rfl, trivial⟩, fun w' hw => hw.fr⟩, ?_⟩; conv => whnf
   refine ⟨?_, trivial⟩; conv => whnf
   refine ⟨rfl, ?_⟩; conv => whnf
   refine ⟨rfl, ?_⟩; conv => whnf
   refine ⟨⟨⟨rfl, rfl, trivial⟩, fun w' hw => hw.fr⟩, ?_⟩; conv => whnf
   repeat refine zq ?_
   refine zr ?_; conv => whnf
   refine ⟨⟨by omega, by omega⟩, ?_⟩; conv => whnf
   refine At.nextH fun w' hw => ⟨(k + 1, k2, v2), by simp only; omega, by simp only; omega, Le.of rfl rfl ⟨rfl, rfl, rfl, rfl, rfl, rfl, rfl, rfl, rfl, rfl, trivial⟩, hw.boxK [7, 6, 5, 4, 1, 0] [_, _, _] [_, _] rfl (by simp only [hsn]; rfl) rfl rfl (by exact rfl), ⟨⟨_, _, rfl⟩, ⟨_, _, rfl⟩, ⟨_, _, rfl⟩, ⟨_, _, _, rfl⟩, trivial⟩, ⟨(nopVo _).okH, (nopI _).okH, (nopI _).okH, fun c hc => by simp at hc; rcases hc with rfl | rfl | rfl | rfl | rfl <;> first | exact ⟨_, _, _, rfl⟩ | exact ⟨_, _, rfl⟩ | trivial, trivial⟩⟩
  ·have hge : k = (sortedB N).length := by have := of_decide_eq_false hc; omega
   subst hge
   rw [List.take_length]
   repeat refine zq ?_
   refine zr ?_; conv => whnf
   refine ⟨nilSl, ?_⟩; conv => whnf
   repeat refine zq ?_
   refine At.cond rfl (fun hq => by simp [slen] at hq) (fun _ => At.skip ?_)
   repeat refine zq ?_
   refine zr ?_; conv => whnf
   refine ⟨⟨by decide, by decide⟩, ?_⟩; conv => whnf
   repeat refine zq ?_
   refine zr ?_; conv => whnf
   repeat refine zq ?_
   refine At.cond rfl (fun hc => At.skip ?_) (fun hc => At.exit ?_)
   ·exfalso; simp at hc
   repeat refine zq ?_
   refine zr ?_; conv => whnf
   refine ⟨rfl, ?_⟩; conv => whnf
   refine ⟨rfl, ?_⟩; conv => whnf
   repeat refine zq ?_
   refine At.ret (At.doneB tab_ok hB _ rfl fun w' hw => ⟨voidsB N ks, kv, vv, rfl, rfl, rows2_of hw (i := 2) (j := 3) rfl rfl (by decide) rfl rfl⟩)
 ·exfalso
  have := of_decide_eq_false hc
  simp at this
def missK (key : Int) (met : List Int) (x : Int) : Bool := !decide (x = key) && !hasI met x
def missB (ks : List Int) (key : Int) (met : List Int) : List Int := ks.filter (missK key met)
theorem missB_snoc {ks met : List Int} {key : Int} {k : Nat} {x : Int} (hx : ks[k]? = some x) : missB (ks.take (k + 1)) key met = missB (ks.take k) key met ++ if missK key met x then [x] else [] := by
 unfold missB; rw [take_snoc hx, List.filter_append, List.filter_cons, List.filter_nil]
theorem missB_len {ks met : List Int} {key : Int} {k : Nat} : (missB (ks.take k) key met).length ≤ k := by
 unfold missB; exact Nat.le_trans (List.length_filter_le _ _) (by rw [List.length_take]; omega)
theorem missing_c (h rb : Nat) (N : List Nd) (hN : NOk N) (hJ : ∀ x ∈ marksB N, (entB N x).kind = 1) (ks : List Int) (skv : Value) (liars seed : Int) (hr : rightS ks liars seed = true) (key : Int) (met : List Int) (mv : Value) (w : World) (H : HR [] w h rb N) (hk : SlOf intT [] w skv ks) (hkl : ks.length ≤ 1000000) (hm : SlOf intT [] w mv met) :
  AnsR Tryz.prog 30 [ptr h, vSt skv liars seed, vI key, mv] [.row 3 1 ((missB ks key met).map encI)] w := by
 refine calls_e [.x (ptr h), .s (.agg (encSt skv liars seed)), .i key, .x mv] Tryz.func30 rfl rfl (Nat.le_of_ble_eq_true rfl) trivial fun B hB => ?_
 repeat refine zq ?_
 refine zr ?_; conv => whnf
 refine ⟨hk.one, ?_⟩; conv => whnf
 intro b5; conv => whnf
 repeat refine zq ?_
 refine zr ?_; conv => whnf
 repeat refine zq ?_
 refine zr ?_; conv => whnf
 refine rows2_call (ks := ks) (fun vo' => vo' = voidsB N ks) fSt vStt (fun _ _ _ _ => rfl) fSt_ok b53 (fun w' hw => all_c h rb N hN hJ ks skv liars seed hr w' (H.ext hw.fr) (hk.ext hw.fr) hkl) ?_
 rintro vo' k2 v2 rfl
 conv => whnf
 refine ⟨rfl, ?_⟩; conv => whnf
 repeat refine zq ?_
 refine At.block ?_
 refine At.loopH (fun p' : Nat × Value => { N := Tryz.f30.ntmps, sl := [(2, some (.i key)), (3, some (.x mv)), (9, some (.s (.c (.o 3 p'.2)))), (15, some (.s (.c (.o 1 k2)))), (16, some (.i ks.length)), (17, some (.i p'.1))], gl := [], hp := [(3, .row p'.2 3 1 ((missB (ks.take p'.1) key met).map encI)), (1, .row k2 3 1 (ks.map encI))], S := [], ws := w }) (fun p' : Nat × Value => p'.1 ≤ ks.length) (fun p' : Nat × Value => ks.length - p'.1)
  (fun w' hw => ⟨(0, .slice none 0 0), Nat.zero_le _, Le.of rfl rfl ⟨rfl, rfl, rfl, rfl, congrArg (Value.int .i64) (by simp), rfl, trivial⟩, Holds.nilK hw [1] rfl rfl rfl, ⟨⟨_, _, _, rfl⟩, ⟨_, _, _, rfl⟩, trivial⟩, ⟨(nopI _).okH, (nopI _).okH, trivial⟩⟩) ?_
 rintro ⟨k, vo⟩ hkk
 simp only at hkk ⊢
 repeat refine zq ?_
 refine zr ?_; conv => whnf
 repeat refine zq ?_
 refine At.cond rfl (fun hc => At.skip ?_) (fun hc => At.exit ?_)
 ·have hlt : k < ks.length := by have := of_decide_eq_true hc; omega
  obtain ⟨x, hx⟩ : ∃ x, ks[k]? = some x := ⟨_, List.getElem?_eq_getElem hlt⟩
  have hlt : k < ks.length := by have := of_decide_eq_true hc; omega
  have hsn := missB_snoc (met := met) (key := key) hx
  have hml := missB_len (ks := ks) (met := met) (key := key) (k := k)
  repeat refine zq ?_
  refine At.block ?_
  repeat refine zq ?_
  refine zr ?_; conv => whnf
  refine ⟨rfl, ?_⟩; conv => whnf
  refine ⟨by omega, ?_⟩; conv => whnf
  refine ⟨by (try simp only [List.length_map]); omega, ?_⟩; conv => whnf
  refine ⟨encI x, ⟨rfl, rfl, by omega, by rw [Int.toNat_natCast, List.getElem?_map, hx]; rfl⟩, ?_⟩; conv => whnf
  repeat refine zq ?_
  refine zr ?_; conv => whnf
  refine ⟨.b (hasI met x), gimp_of (ans_quiet b52 (fun w' hw => contains_c met x [] mv w' (hm.ext hw.fr))), ?_⟩; conv => whnf
  repeat refine zq ?_
  refine At.cond rfl (fun hq => ?_) (fun hq => At.skip ?_)
  ·have hB' : missK key met x = true := by unfold missK; simpa only [bor, band] using hq
   rw [hB', if_pos rfl] at hsn
   repeat refine zq ?_
   refine zr ?_; conv => whnf
   intro v6; conv => whnf
   refine ⟨rfl, ?_⟩; conv => whnf
   refine ⟨⟨rfl, by simp; omega⟩, ?_⟩; conv => whnf
   intro v7; conv => whnf
   repeat refine zq ?_
   refine zr ?_; conv => whnf
   refine ⟨⟨by omega, by omega⟩, ?_⟩; conv => whnf
   refine At.nextH fun w' hw => ⟨(k + 1, v7), by simp only; omega, by simp only; omega, Le.of rfl rfl ⟨rfl, rfl, rfl, rfl, rfl, rfl, trivial⟩, hw.keep [3, 1] ?_ rfl rfl, ⟨⟨_, _, _, rfl⟩, ⟨_, _, _, rfl⟩, trivial⟩, ⟨(nopI _).okH, (nopI _).okH, trivial⟩⟩
   show [(3, LO.row v7 3 1 _), (1, LO.row k2 3 1 _)] = [(3, LO.row v7 3 1 _), (1, LO.row k2 3 1 _)]
   rw [hsn, List.map_append]
   rfl
  ·have hB' : missK key met x = false := by unfold missK; simpa only [bor, band] using hq
   rw [hB', if_neg (by decide), List.append_nil] at hsn
   repeat refine zq ?_
   refine zr ?_; conv => whnf
   refine ⟨⟨by omega, by omega⟩, ?_⟩; conv => whnf
   refine At.nextH fun w' hw => ⟨(k + 1, vo), by simp only; omega, by simp only; omega, Le.of rfl rfl ⟨rfl, rfl, rfl, rfl, rfl, rfl, trivial⟩, hw.keep [3, 1] (by simp only [hsn]; rfl) rfl rfl, ⟨⟨_, _, _, rfl⟩, ⟨_, _, _, rfl⟩, trivial⟩, ⟨(nopI _).okH, (nopI _).okH, trivial⟩⟩
 ·have hge : k = ks.length := by have := of_decide_eq_false hc; omega
  subst hge
  rw [List.take_length]
  repeat refine zq ?_
  refine zr ?_; conv => whnf
  repeat refine zq ?_
  refine At.ret (At.doneB tab_ok hB _ rfl fun w' hw => ansR_row (id := 3) hw rfl rfl rfl)
theorem safe_c (h rb : Nat) (N : List Nd) (hN : NOk N) (hJ : ∀ x ∈ marksB N, (entB N x).kind = 1) (ks : List Int) (skv : Value) (liars seed : Int) (hr : rightS ks liars seed = true) (key : Int) (met : List Int) (mv : Value) (w : World) (H : HR [] w h rb N) (hk : SlOf intT [] w skv ks) (hkl : ks.length ≤ 1000000) (hm : SlOf intT [] w mv met) :
  Ans Tryz.prog 31 [ptr h, vSt skv liars seed, vI key, mv] (.b (decide (((missB ks key met).length : Int) = 0))) w := by
 refine calls_e [.x (ptr h), .s (.agg (encSt skv liars seed)), .i key, .x mv] Tryz.func31 rfl rfl (Nat.le_of_ble_eq_true rfl) trivial fun B hB => ?_
 repeat refine zq ?_
 refine zr ?_; conv => whnf
 refine ⟨hk.one, ?_⟩; conv => whnf
 intro b5; conv => whnf
 repeat refine zq ?_
 refine At.regionG tab_ok ?_; conv => whnf
 refine ans_call (r := .b (rightS ks liars seed)) b51 rfl (fun w' hw => rightS_c ks liars seed [] skv w' (hk.ext hw.fr) hkl) ?_
 rw [hr]
 conv => whnf
 refine ansR_call b30 (rd1 (nopI _)) (fun w' hw => missing_c h rb N hN hJ ks skv liars seed hr key met mv w' (H.ext hw.fr) (hk.ext hw.fr) hkl (hm.ext hw.fr)) ?_
 intro vm; conv => whnf
 refine ⟨rfl, ?_⟩; conv => whnf
 repeat refine zq ?_
 refine At.ret (At.doneB tab_ok hB _ rfl fun w' hw => ⟨?_, hw.fr⟩)
 simp only [List.length_map, cond_true]
def mayB (ks : List Int) (key : Int) (met : List Int) : Int := if hasI ks key then (if (missB ks key met).length = 0 then 0 else 19) else 18
theorem may_c (h rb : Nat) (N : List Nd) (hN : NOk N) (hJ : ∀ x ∈ marksB N, (entB N x).kind = 1) (hno : NoFork N) (ks : List Int) (skv : Value) (liars seed : Int) (hr : rightS ks liars seed = true) (key : Int) (met : List Int) (mv : Value) (w : World) (H : HR [] w h rb N) (hk : SlOf intT [] w skv ks) (hkl : ks.length ≤ 1000000) (hm : SlOf intT [] w mv met) :
  Ans Tryz.prog 24 [ptr h, vSt skv liars seed, vI key, mv] (.i (mayB ks key met)) w := by
 refine calls_e [.x (ptr h), .s (.agg (encSt skv liars seed)), .i key, .x mv] Tryz.func24 rfl rfl (Nat.le_of_ble_eq_true rfl) trivial fun B hB => ?_
 repeat refine zq ?_
 refine zr ?_; conv => whnf
 refine ⟨hk.one, ?_⟩; conv => whnf
 intro b5; conv => whnf
 repeat refine zq ?_
 refine At.block ?_
 repeat refine zq ?_
 refine zr ?_; conv => whnf
 refine ans_call (r := .b (rightS ks liars seed)) b51 rfl (fun w' hw => rightS_c ks liars seed [] skv w' (hk.ext hw.fr) hkl) ?_
 rw [hr]
 conv => whnf
 repeat refine zq ?_
 refine At.cond (t := false) rfl (fun hq => by cases hq) (fun _ => ?_)
 repeat refine zq ?_
 refine zr ?_; conv => whnf
 refine rows2_call (ks := ks) (fun vo' => vo' = voidsB N ks) fSt vStt (fun _ _ _ _ => rfl) fSt_ok b53 (fun w' hw => all_c h rb N hN hJ ks skv liars seed hr w' (H.ext hw.fr) (hk.ext hw.fr) hkl) ?_
 rintro vo' k2 v2 rfl
 conv => whnf
 refine ans_call (r := .b (hasI ks key)) b52 rfl (fun w' hw => contains_c ks key [] k2 w' (slI _ (hw.row (id := 1) rfl) hkl)) ?_; conv => whnf
 repeat refine zq ?_
 refine At.cond rfl (fun hq => ?_) (fun hq => ?_)
 ·have hh : hasI ks key = false := by simpa using hq
  repeat refine zq ?_
  refine zr ?_; conv => whnf
  repeat refine zq ?_
  refine At.ret (At.doneB tab_ok hB _ rfl fun w' hw => ⟨?_, hw.fr⟩)
  unfold mayB; rw [hh]; rfl
 have hh : hasI ks key = true := by simpa using hq
 repeat refine zq ?_
 refine zr ?_; conv => whnf
 refine ans_call (r := .x (.slice none 0 0)) b23 rfl (fun w' hw => guilty_none h rb N hN hno w' (H.ext hw.fr)) ?_; conv => whnf
 refine ans_call (r := .b (hasI [] key)) b52 rfl (fun w' hw => contains_c [] key [] (.slice none 0 0) w' nilI_sl) ?_
 rw [show hasI [] key = false from rfl]
 conv => whnf
 repeat refine zq ?_
 refine At.cond (t := false) rfl (fun hq => by cases hq) (fun _ => ?_)
 repeat refine zq ?_
 refine zr ?_; conv => whnf
 refine ans_call (r := .b (decide (((missB ks key met).length : Int) = 0))) b31 rfl (fun w' hw => safe_c h rb N hN hJ ks skv liars seed hr key met mv w' (H.ext hw.fr) (hk.ext hw.fr) hkl (hm.ext hw.fr)) ?_; conv => whnf
 repeat refine zq ?_
 refine At.cond rfl (fun hq => ?_) (fun hq => At.skip ?_)
 ·have hl : ¬ (missB ks key met).length = 0 := by have := hq; simp only [Bool.not_eq_true', decide_eq_false_iff_not] at this; omega
  repeat refine zq ?_
  refine zr ?_; conv => whnf
  repeat refine zq ?_
  refine At.ret (At.doneB tab_ok hB _ rfl fun w' hw => ⟨?_, hw.fr⟩)
  unfold mayB; rw [hh, if_pos rfl, if_neg hl]
 ·have hl : (missB ks key met).length = 0 := by have := hq; simp only [Bool.not_eq_false', decide_eq_true_eq] at this; omega
  repeat refine zq ?_
  refine zr ?_; conv => whnf
  repeat refine zq ?_
  refine At.ret (At.doneB tab_ok hB _ rfl fun w' hw => ⟨?_, hw.fr⟩)
  unfold mayB; rw [hh, if_pos rfl, if_pos hl]
end Go.Proofs.YtdigebokbhmfaaaGreatDoor.Ap
namespace Go.Vc
theorem ansG_call {P : Program} {f : FuncId} {args : List Value} {r : RV} {G : Prop} {st : St} {d : Option Nat} {K : St → Prop} (hb : Body P f) (hn : noPr r = true) (h : ∀ w, Holds st w → G ∧ Ans P f args r w) (hk : G → goPut st d r K) : UCall P st f args d K :=
 .inl ⟨hb, fun hwf w hw => (h w hw).2.mono fun e w' ⟨he, hx⟩ => ⟨r, st, he, ⟨rfl, rfl, rfl, rfl⟩, hwf, noPr_ok hn, hw.ext hx, hk (h w hw).1⟩⟩
end Go.Vc
namespace Go.Proofs.YtdigebokbhmfaaaGreatDoor.Ap
open Go.Vc Rt Go.Bs
set_option maxHeartbeats 1000000
theorem note_c (a q : Int) (v : Value) (hv : v.oneCell' = true) (w : World) : Ans Tryz.prog 25 [vI a, vI q, v] (.s (.agg (encE (noteE a q 0 []) v (.slice none 0 0) (.slice none 0 0)))) w := by
 refine calls_plainB [.i a, .i q, .x v] Tryz.func25 rfl rfl (Nat.le_of_ble_eq_true rfl) rfl fun B hB => ?_
 repeat refine zq ?_
 refine zr ?_; conv => whnf
 intro b6; conv => whnf
 repeat refine zq ?_
 refine zr ?_; conv => whnf
 repeat (first | (refine ⟨rfl, ?_⟩; conv => whnf) | (refine ⟨hv, ?_⟩; conv => whnf))
 repeat refine zq ?_
 refine At.ret (At.doneB tab_ok hB _ rfl fun w' hw => ⟨rfl, hw.fr⟩)
theorem iR1 : iR 1 := ⟨by decide, by decide⟩
theorem iR2 : iR 2 := ⟨by decide, by decide⟩
theorem ok0 : NoteOk 1 0 0 [] := ⟨by decide, by decide, by decide, fun x hx => (by cases hx), by decide, .nil⟩
theorem ok1 : NoteOk 1 1 0 [0] := ⟨by decide, by decide, by decide, fun x hx => (by rw [List.mem_singleton.1 hx]; decide), by decide, by simp⟩
theorem ok2 : NoteOk 2 0 0 [1] := ⟨by decide, by decide, by decide, fun x hx => (by rw [List.mem_singleton.1 hx]; decide), by decide, by simp⟩
def x0 : Nd := ⟨1, entryS (noteE 1 0 0 []), 0, noteE 1 0 0 [], 0, []⟩
def x1 : Nd := ⟨1, entryS (noteE 1 1 0 [0]), 1, noteE 1 1 0 [0], 1, [1]⟩
def x2 : Nd := ⟨2, entryS (noteE 2 0 0 [1]), 2, noteE 2 0 0 [1], 2, [3]⟩
def rS3 : List SK := [(x0.key, x0.text), (x1.key, x1.text), (x2.key, x2.text)]
def nS3 : List Nd := [x0, x1, x2]
theorem new1 : (x1.key, x1.text) ∉ [(x0.key, x0.text)] := fun h => by
 have e := List.mem_singleton.1 h
 have := note_inj ok1 ok0 (congrArg Prod.snd e)
 exact absurd (congrArg En.seq this) (by decide)
theorem new2 : (x2.key, x2.text) ∉ [(x0.key, x0.text), (x1.key, x1.text)] := fun h => by
 rcases List.mem_cons.1 h with e | h
 ·exact absurd (congrArg Prod.fst e) (by decide)
 ·exact absurd (congrArg Prod.fst (List.mem_singleton.1 h)) (by decide)
def SgN (R : List SK) (x : Nd) : Prop := signL R x.key x.text = R ++ [(x.key, x.text)] ∧ sgT R x.key x.text = (x.key, x.text, (R.length : Int)) ∧ validR (R ++ [(x.key, x.text)]) x.key x.text R.length = true
theorem sg0 : SgN [] x0 := sign_new (R := []) (k := x0.key) (t := x0.text) (by decide) (by simp)
theorem sg1 : SgN [(x0.key, x0.text)] x1 := sign_new (R := [(x0.key, x0.text)]) (k := x1.key) (t := x1.text) (by decide) new1
theorem sg2 : SgN [(x0.key, x0.text), (x1.key, x1.text)] x2 := sign_new (R := [(x0.key, x0.text), (x1.key, x1.text)]) (k := x2.key) (t := x2.text) (by decide) new2
theorem ao0 : AddOk [(x0.key, x0.text)] [] x0 := ⟨sg0.2.2, by show (readE (entryS (noteE 1 0 0 []))).2 = 0; rw [note_read ok0], by show _ = (readE (entryS (noteE 1 0 0 []))).1; rw [note_read ok0]; rfl, rfl, rfl, rfl, fun h => absurd rfl h.1, by decide, rfl, rfl⟩
theorem ao1 : AddOk [(x0.key, x0.text), (x1.key, x1.text)] [x0] x1 := ⟨sg1.2.2, by show (readE (entryS (noteE 1 1 0 [0]))).2 = 0; rw [note_read ok1], by show _ = (readE (entryS (noteE 1 1 0 [0]))).1; rw [note_read ok1]; rfl, rfl, rfl, rfl, fun h => absurd rfl h.1, by decide, by kernel_rfl, by kernel_rfl⟩
theorem ao2 : AddOk rS3 [x0, x1] x2 := ⟨sg2.2.2, by show (readE (entryS (noteE 2 0 0 [1]))).2 = 0; rw [note_read ok2], by show _ = (readE (entryS (noteE 2 0 0 [1]))).1; rw [note_read ok2]; rfl, rfl, rfl, rfl, fun h => absurd rfl h.1, by decide, by kernel_rfl, by kernel_rfl⟩
theorem gn3 : GN rS3 nS3 := by
 have l1 : RLe [(x0.key, x0.text)] rS3 := ⟨[(x1.key, x1.text), (x2.key, x2.text)], rfl⟩
 have l2 : RLe [(x0.key, x0.text), (x1.key, x1.text)] rS3 := ⟨[(x2.key, x2.text)], rfl⟩
 exact (((GN.nil rS3).snoc (addB_of (ao0.le l1))).snoc (addB_of (ao1.le l2))).snoc (addB_of ao2)
theorem rg3 : RgOk rS3 := ⟨by decide, fun p hp => by
 have l0 : x0.text.length ≤ 2000 := note_len ok0
 have l1 : x1.text.length ≤ 2000 := note_len ok1
 have l2 : x2.text.length ≤ 2000 := note_len ok2
 simp only [rS3, List.mem_cons, List.not_mem_nil, or_false] at hp
 rcases hp with rfl | rfl | rfl
 ·exact ⟨⟨⟨by decide, by decide⟩, by show x0.text.length ≤ _; omega⟩, by show x0.text.length ≤ _; omega⟩
 ·exact ⟨⟨⟨by decide, by decide⟩, by show x1.text.length ≤ _; omega⟩, by show x1.text.length ≤ _; omega⟩
 ·exact ⟨⟨⟨by decide, by decide⟩, by show x2.text.length ≤ _; omega⟩, by show x2.text.length ≤ _; omega⟩⟩
theorem can3 : canB nS3 = nS3 := (can_uniq gn3.nodup (.refl _) (by
 unfold nS3
 refine List.pairwise_cons.2 ⟨fun b hb => ?_, List.pairwise_cons.2 ⟨fun b hb => ?_, List.pairwise_singleton _ _⟩⟩
 ·simp only [List.mem_cons, List.not_mem_nil, or_false] at hb
  rcases hb with rfl | rfl <;> (unfold ltN; simp [x0, x1, x2])
 ·rw [List.mem_singleton.1 hb]; unfold ltN; simp [x1, x2])).symm
theorem sor3 : sortedB nS3 = [0, 1, 2] := by unfold sortedB; rw [can3]; rfl
theorem mks3 : marksB nS3 = [0, 1, 2] := List.Perm.eq_of_pairwise (le := fun a b : Int => a ≤ b) (fun a b _ _ h1 h2 => Int.le_antisymm h1 h2) (sortI_sorted _) (by decide) (sortI_perm _)
theorem own3 : ownOf nS3 1 = [0, 1] := by unfold ownOf; rw [sor3]; kernel_rfl
theorem gone3 : goneB nS3 1 1 = [1] := by unfold goneB cutO; rw [own3]; rfl
theorem lost3 : lostQ nS3 1 1 0 = false ∧ lostQ nS3 1 1 1 = true ∧ lostQ nS3 1 1 2 = true := by
 unfold lostQ; rw [gone3]
 exact ⟨by kernel_rfl, by kernel_rfl, by kernel_rfl⟩
theorem marksA3 : marksB (beforeH rS3 nS3 1 1) = [0] := by
 have hp : (mksN (beforeH rS3 nS3 1 1)).Perm [0] := (List.perm_ext_iff_of_nodup (before_good gn3 rg3.len 1 1).nodup (by simp)).2 fun m => by
  rw [before_mem gn3 rg3.len, List.mem_singleton]
  constructor
  ·rintro ⟨hm, hl⟩
   have : m = 0 ∨ m = 1 ∨ m = 2 := by simpa [mksN, nS3, x0, x1, x2] using hm
   rcases this with rfl | rfl | rfl
   ·rfl
   ·rw [lost3.2.1] at hl; cases hl
   ·rw [lost3.2.2] at hl; cases hl
  ·rintro rfl
   exact ⟨by simp [mksN, nS3, x0], lost3.1⟩
 have : marksB (beforeH rS3 nS3 1 1) = sortI [0] := sortI_eq hp
 rw [this]
 simp [sortI]
theorem kind3 : ∀ x ∈ marksB nS3, (entB nS3 x).kind = 1 := by
 rw [mks3]
 intro x hx
 simp only [List.mem_cons, List.not_mem_nil, or_false] at hx
 rcases hx with rfl | rfl | rfl <;> rfl
theorem nofork3 : NoFork nS3 := by
 unfold NoFork
 rw [mks3]
 intro a ha b hb he
 simp only [List.mem_cons, List.not_mem_nil, or_false] at ha hb
 rcases ha with rfl | rfl | rfl <;> rcases hb with rfl | rfl | rfl <;> kernel_rfl
theorem right3 : rightS [1, 2, 3] 0 0 = true := by kernel_rfl
def esV (v w : Value) : List (En × Value) := [(noteE 1 0 0 [], .slice none 0 0), (noteE 1 1 0 [0], v), (noteE 2 0 0 [1], w)]
def encEV (p : En × Value) : List CV := encE p.1 p.2 (.slice none 0 0) (.slice none 0 0)
theorem nopEV (xs : List (En × Value)) : NoP (xs.map encEV) := NoP.map (fun _ => rfl) xs
theorem small_c (w : World) (hG : Gl w) : Ans Tryz.prog 5 [] (.b true) w := by
 have hNok := nok_good rg3 gn3
 have hAok := nok_good rg3 (before_good gn3 rg3.len 1 1)
 refine calls_e [] Tryz.func5 rfl rfl (Nat.le_of_ble_eq_true rfl) trivial fun B hB => ?_
 repeat refine zq ?_
 refine zr ?_; conv => whnf
 repeat refine zq ?_
 refine zr ?_; conv => whnf
 refine newAb_call (fun i : Nat × List Nat => .x (ptr i.1)) (fun i => i.2) (fun i => RingQ i.1 i.2 []) b18 (fun _ => rfl) (fun w' hw => ring_new w' (hG.ext hw.fr)) ?_
 rintro ⟨rb, BR0⟩
 conv => whnf
 repeat refine zq ?_
 refine zr ?_; conv => whnf
 refine newAb_call (fun i : Nat × List Nat => .x (ptr i.1)) (fun i => i.2) (fun i => HistQ i.1 rb i.2 []) b19 (fun _ => rfl) (fun w' hw => hnew8 rb w' (hG.ext hw.fr)) ?_
 rintro ⟨hb, B0⟩
 conv => whnf
 repeat refine zq ?_
 refine At.regionG tab_ok ?_; conv => whnf
 repeat refine zq ?_
 refine At.cond (t := false) rfl (fun hq => by cases hq) (fun _ => At.skip ?_)
 repeat refine zq ?_
 refine zr ?_; conv => whnf
 refine ans_call (r := .s (.agg (encE (noteE 1 0 0 []) (.slice none 0 0) (.slice none 0 0) (.slice none 0 0)))) b25 rfl (fun w' _ => note_c 1 0 (.slice none 0 0) rfl w') ?_; conv => whnf
 intro v2; conv => whnf
 refine ansG_call (G := ∃ a n c, v2 = .slice a n c) (r := .s (.agg (encE (noteE 1 1 0 [0]) v2 (.slice none 0 0) (.slice none 0 0)))) b25 rfl (fun w' hw => ⟨hw.sl (id := 2) rfl, note_c 1 1 v2 (by obtain ⟨a, n, c, e⟩ := hw.sl (id := 2) rfl; rw [e]; rfl) w'⟩) ?_
 intro hv2; conv => whnf
 intro v3; conv => whnf
 refine ansG_call (G := ∃ a n c, v3 = .slice a n c) (r := .s (.agg (encE (noteE 2 0 0 [1]) v3 (.slice none 0 0) (.slice none 0 0)))) b25 rfl (fun w' hw => ⟨hw.sl (id := 3) rfl, note_c 2 0 v3 (by obtain ⟨a, n, c, e⟩ := hw.sl (id := 3) rfl; rw [e]; rfl) w'⟩) ?_
 intro hv3; conv => whnf
 have o2 : v2.oneCell' = true := by obtain ⟨a, n, c, e⟩ := hv2; rw [e]; rfl
 have o3 : v3.oneCell' = true := by obtain ⟨a, n, c, e⟩ := hv3; rw [e]; rfl
 refine ⟨rfl, ?_⟩; conv => whnf
 refine ⟨rfl, ?_⟩; conv => whnf
 refine ⟨rfl, ?_⟩; conv => whnf
 refine ⟨o2, ?_⟩; conv => whnf
 refine ⟨rfl, ?_⟩; conv => whnf
 refine ⟨rfl, ?_⟩; conv => whnf
 refine ⟨o3, ?_⟩; conv => whnf
 refine ⟨rfl, ?_⟩; conv => whnf
 refine ⟨rfl, ?_⟩; conv => whnf
 intro v4; conv => whnf
 repeat refine zq ?_
 refine zr ?_; conv => whnf
 repeat refine zq ?_
 refine At.block ?_
 refine At.loopH (fun p' : Nat × List Nat × List Nat => { N := Tryz.f5.ntmps, sl := [(1, some (.x ((ptr rb)))), (2, some (.x ((ptr hb)))), (3, some (.s (.c (.o 4 v4)))), (4, some (.i p'.1))], gl := [], hp := [(4, .row v4 40 13 ((esV v2 v3).map encEV)), (3, .row v3 3 1 ([1].map encI)), (2, .row v2 3 1 ([0].map encI)), (1, histO hb rb p'.2.2 (nS3.take p'.1)), (0, ringO rb p'.2.1 (rS3.take p'.1))], S := [], ws := w }) (fun p' : Nat × List Nat × List Nat => p'.1 ≤ 3) (fun p' : Nat × List Nat × List Nat => 3 - p'.1)
  (fun w' hw => ⟨(0, BR0, B0), Nat.zero_le _, Le.of rfl rfl ⟨rfl, rfl, rfl, rfl, trivial⟩, hw.keep [4, 3, 2, 1, 0] rfl rfl rfl, ⟨⟨_, _, _, rfl⟩, trivial⟩, ⟨(nopEV _).okH, (nopI _).okH, (nopI _).okH, trivial⟩⟩) ?_
 rintro ⟨k, BR, BH⟩ hk
 simp only at hk ⊢
 repeat refine zq ?_
 refine zr ?_; conv => whnf
 refine ⟨rfl, ?_⟩; conv => whnf
 repeat refine zq ?_
 refine At.cond rfl (fun hc => At.skip ?_) (fun hc => At.exit ?_)
 ·have hlt : k < 3 := by have := of_decide_eq_true hc; simp [esV] at this; omega
  have hst : ∃ p : En × Value, (esV v2 v3)[k]? = some p ∧ EnR p.1 ∧ p.1.keys = [] ∧ p.1.spans = [] ∧ (entryS p.1).length ≤ 2000 ∧ iR p.1.author ∧ p.2.oneCell' = true ∧ ((p.2 = .slice none 0 0 ∧ p.1.knows = []) ∨ (p.2 = v2 ∧ p.1.knows = [0]) ∨ (p.2 = v3 ∧ p.1.knows = [1])) ∧
    signL (rS3.take k) p.1.author (entryS p.1) = rS3.take (k + 1) ∧ sgT (rS3.take k) p.1.author (entryS p.1) = (p.1.author, entryS p.1, (k : Int)) ∧ addB (rS3.take (k + 1)) (nS3.take k) p.1.author (entryS p.1) k = (nS3.take (k + 1), 0) := by
   rcases k with _ | _ | _ | k
   ·exact ⟨_, rfl, note_R ok0, rfl, rfl, note_len ok0, iR1, rfl, .inl ⟨rfl, rfl⟩, sg0.1, sg0.2.1, addB_of ao0⟩
   ·exact ⟨_, rfl, note_R ok1, rfl, rfl, note_len ok1, iR1, o2, .inr (.inl ⟨rfl, rfl⟩), sg1.1, sg1.2.1, addB_of ao1⟩
   ·exact ⟨_, rfl, note_R ok2, rfl, rfl, note_len ok2, iR2, o3, .inr (.inr ⟨rfl, rfl⟩), sg2.1, sg2.2.1, addB_of ao2⟩
   ·omega
  obtain ⟨⟨e, kv⟩, hp, hER, hey, hes, htl, hau, hone, hkv, hs1, hs2, hs3⟩ := hst
  simp only at hER hey hes htl hau hone hkv hs1 hs2 hs3
  have hNk : NOk (nS3.take k) := nok_good rg3 (gn3.take k)
  have hRk : (rS3.take k).length ≤ 3 := by rw [List.length_take]; omega
  have hkE : ∀ {st : St} {w' : World}, Holds st w' → Vc.look st.hp 2 = some (.row v2 3 1 ([0].map encI)) → Vc.look st.hp 3 = some (.row v3 3 1 ([1].map encI)) → EnIn [] w' e kv (.slice none 0 0) (.slice none 0 0) := fun hw l2 l3 => by
   refine ⟨?_, by rw [hey]; exact nilI, by rw [hes]; exact SlOf.of_row (enc := encS) (E := 50) nil_holds (fun b hb => by simp [blkOf] at hb) (by simp)⟩
   rcases hkv with ⟨rfl, h⟩ | ⟨rfl, h⟩ | ⟨rfl, h⟩
   ·rw [h]; exact nilI
   ·rw [h]; exact slI _ (hw.row l2) (by simp)
   ·rw [h]; exact slI _ (hw.row l3) (by simp)
  generalize hgR : rS3.take k = Rk at hs1 hs2 hRk ⊢
  generalize hgN : nS3.take k = Nk at hs3 hNk ⊢
  repeat refine zq ?_
  refine At.block ?_
  repeat refine zq ?_
  refine At.planG tab_ok mixed [(4, .row v4 40 13 ((esV v2 v3).map encEV))] (.take 0 (.take 1 (.take 2 (.take 3 (.take 4 (.take 5 (.take 6 (.take 7 (.take 8 (.take 9 (.take 10 (.br 11 (.br 12 (.br 13 (.take 14 (.done)) (.nob)) (.nob)) (.nob))))))))))))) (by kernel_rfl) (by kernel_rfl) ⟨rfl, trivial⟩ ?_; conv => whnf
  refine ⟨rfl, ?_⟩; conv => whnf
  refine ⟨by omega, ?_⟩; conv => whnf
  refine ⟨by (try simp only [List.length_map]); simp [esV]; omega, ?_⟩; conv => whnf
  refine ⟨encEV (e, kv), ⟨rfl, rfl, by omega, by rw [Int.toNat_natCast, List.getElem?_map, hp]; rfl⟩, ?_⟩; conv => whnf
  refine ⟨rfl, ?_⟩; conv => whnf
  refine ⟨by omega, ?_⟩; conv => whnf
  refine ⟨by (try simp only [List.length_map]); simp [esV]; omega, ?_⟩; conv => whnf
  refine ⟨encEV (e, kv), ⟨rfl, rfl, by omega, by rw [Int.toNat_natCast, List.getElem?_map, hp]; rfl⟩, ?_⟩; conv => whnf
  refine ⟨?_, trivial⟩; conv => whnf
  refine ans_call (r := rS (entryS e)) b28 rfl (fun w' hw => etext_c e kv (.slice none 0 0) (.slice none 0 0) [] w' (hkE hw rfl rfl) hER (hG.ext hw.fr)) ?_; conv => whnf
  refine ⟨⟨⟨rfl, trivial⟩, fun w' hw => hw.fr⟩, ?_⟩; conv => whnf
  refine ⟨?_, trivial⟩; conv => whnf
  refine sign_call (id := 0) (rb := rb) (B := BR) (R := Rk) (k := e.author) (t := entryS e) rfl ⟨hau, by show (entryS e).length ≤ _; omega⟩ (by omega) (fun w' hw => (hG.ext hw.fr).size) ?_
  intro BR2
  rw [hs1, hs2]
  conv => whnf
  refine ⟨⟨⟨rfl, trivial⟩, fun w' hw => hw.fr⟩, ?_⟩; conv => whnf
  refine ⟨?_, trivial⟩; conv => whnf
  refine add_call (id := 1) (h := hb) (rb := rb) (B := BH) (N := Nk) (R := rS3.take (k + 1)) (k := e.author) (mk := (k : Int)) (t := entryS e) rfl hNk ⟨hau, by show (entryS e).length ≤ _; omega⟩ (by omega) (fun w' hw => hG.ext hw.fr) (fun w' hw => ringO_rr (hw.objs _ (look_mem (s := 0) rfl)) (fun b hb hm => hw.apart (i := 1) (j := 0) rfl rfl (by decide) b (mem_nub.2 hb) (mem_nub.2 hm))) ?_
  intro B4
  rw [hs3]
  conv => whnf
  refine ⟨⟨⟨rfl, trivial⟩, fun w' hw => hw.fr⟩, ?_⟩; conv => whnf
  repeat refine zq ?_
  refine At.cond (t := false) rfl (fun hq => by cases hq) (fun _ => At.skip ?_)
  repeat refine zq ?_
  refine zr ?_; conv => whnf
  refine ⟨⟨by omega, by omega⟩, ?_⟩; conv => whnf
  refine At.nextH fun w' hw => ⟨(k + 1, BR2, B4), by simp only; omega, by simp only; omega, Le.of rfl rfl ⟨rfl, rfl, rfl, rfl, trivial⟩, hw.keep [4, 3, 2, 1, 0] rfl rfl rfl, ⟨⟨_, _, _, rfl⟩, trivial⟩, ⟨(nopEV _).okH, (nopI _).okH, (nopI _).okH, trivial⟩⟩
 ·have hge : k = 3 := by have := of_decide_eq_false hc; simp [esV] at this; omega
  subst hge
  rw [show nS3.take 3 = nS3 from rfl, show rS3.take 3 = rS3 from rfl]
  have hH : ∀ {st : St} {w' : World}, Holds st w' → Vc.look st.hp 1 = some (histO hb rb BH nS3) → HR [] w' hb rb nS3 := fun hw hl => histO_hr (hw.objs _ (look_mem hl)) hNok (fun b hb => by cases hb)
  have hRR : ∀ {st : St} {w' : World}, Holds st w' → Vc.look st.hp 0 = some (ringO rb BR rS3) → RgR [] w' rb rS3 := fun hw hl => ringO_rr (hw.objs _ (look_mem hl)) (fun b hb => by cases hb)
  repeat refine zq ?_
  refine zr ?_; conv => whnf
  intro v5; conv => whnf
  intro b6; conv => whnf
  repeat refine zq ?_
  refine zr ?_; conv => whnf
  refine newAb_call (fun i : Nat × List Nat => .x (ptr i.1)) (fun i => i.2) (fun i => HistQ i.1 rb i.2 (beforeH rS3 nS3 1 1)) b9 (fun _ => rfl) (fun w' hw => before_h hb rb nS3 hNok rS3 1 1 w' (hG.ext hw.fr) (hH hw rfl) (hRR hw rfl)) ?_
  rintro ⟨ha, BA⟩
  conv => whnf
  have hHA : ∀ {st : St} {w' : World}, Holds st w' → Vc.look st.hp 7 = some (histO ha rb BA (beforeH rS3 nS3 1 1)) → HR [] w' ha rb (beforeH rS3 nS3 1 1) := fun hw hl => histO_hr (hw.objs _ (look_mem hl)) hAok (fun b hb => by cases hb)
  repeat refine zq ?_
  refine zr ?_; conv => whnf
  repeat refine zq ?_
  refine At.cond (t := false) rfl (fun hq => by cases hq) (fun _ => At.skip ?_)
  repeat refine zq ?_
  refine zr ?_; conv => whnf
  repeat (first | (refine ⟨rfl, ?_⟩; conv => whnf))
  intro v8; conv => whnf
  refine newAbG_call (fun i : Nat × List Nat × List Nd => .tup [.c (.x (ptr i.1)), .c (.i 0)]) (fun i => i.2.1) (fun i => HistQ i.1 rb i.2.1 i.2.2) (fun i => GN rS3 i.2.2 ∧ ∀ m, m ∈ mksN i.2.2 ↔ m ∈ mksN (beforeH rS3 nS3 1 1) ∨ ∃ x ∈ [(hb, rb, nS3)], m ∈ mksN x.2.2) b10 (fun _ => rfl) (fun w' hw => restore_r ha rb (beforeH rS3 nS3 1 1) rS3 rg3 (before_good gn3 rg3.len 1 1) [(hb, rb, nS3)] (fun x hx => by rw [List.mem_singleton.1 hx]; exact gn3) v8 w' (hG.ext hw.fr) (hHA hw rfl) (hRR hw rfl) (fun x hx => by rw [List.mem_singleton.1 hx]; exact hH hw rfl) (SlOf.of_row (enc := fun v => [.x v]) (xs := [ptr hb]) (hw.row (id := 8) rfl) (fun b hb => nilS) (by simp))) ?_
  rintro ⟨hr, BB, M⟩ ⟨hgM, hmM⟩
  simp only at hgM hmM
  conv => whnf
  have hMok := nok_good rg3 hgM
  have hsame : marksB M = marksB nS3 := marks_eq hgM gn3 fun m => by
   rw [hmM]
   constructor
   ·rintro (h | ⟨x, hx, h⟩)
    ·exact ((before_mem gn3 rg3.len 1 1).1 h).1
    ·rw [List.mem_singleton.1 hx] at h; exact h
   ·intro h; exact .inr ⟨_, List.mem_singleton.2 rfl, h⟩
  repeat refine zq ?_
  refine At.regionG tab_ok ?_; conv => whnf
  repeat refine zq ?_
  refine At.cond (t := false) rfl (fun hq => by cases hq) (fun _ => At.skip ?_)
  repeat refine zq ?_
  refine zr ?_; conv => whnf
  repeat (first | (refine ⟨rfl, ?_⟩; conv => whnf))
  intro v10; conv => whnf
  refine ans_call (r := .tup [.c (.x (.pointer none)), .c (.i 1)]) b10 rfl (fun w' hw => restoreN_c ha v10 w' (SlOf.of_row (enc := fun v => [.x v]) (xs := [.pointer none]) (hw.row (id := 10) rfl) (fun b hb => nilS) (by simp))) ?_; conv => whnf
  have hS : ∀ {st : St} {w' : World}, Holds st w' → Vc.look st.hp 5 = some (.row v5 3 1 ([1, 2, 3].map encI)) → SlOf intT [] w' v5 [1, 2, 3] := fun hw hl => slI _ (hw.row hl) (by simp)
  repeat refine zq ?_
  refine At.regionG tab_ok ?_; conv => whnf
  refine ansR_call b12 (rd1 (nopI _)) (fun w' hw => by have := marks_r ha rb _ hAok w' (hHA hw rfl); rw [marksA3] at this; exact this) ?_
  intro v11; conv => whnf
  intro v12; conv => whnf
  refine ans_call (r := .b true) b29 rfl (fun w' hw => ints_r [0] [0] v11 v12 w' (slI _ (hw.row (id := 11) rfl) (by simp)) (slI _ (hw.row (id := 12) rfl) (by simp))) ?_; conv => whnf
  intro v13; conv => whnf
  refine ansR_call b30 (rd1 (nopI _)) (fun w' hw => by
   have := missing_c hb rb nS3 hNok kind3 [1, 2, 3] v5 0 0 right3 1 [2] v13 w' (hH hw rfl) (hS hw rfl) (by simp) (slI _ (hw.row (id := 13) rfl) (by simp))
   rw [show missB [1, 2, 3] 1 [2] = [3] from rfl] at this; exact this) ?_
  intro v14; conv => whnf
  intro v15; conv => whnf
  refine ans_call (r := .b true) b29 rfl (fun w' hw => ints_r [3] [3] v14 v15 w' (slI _ (hw.row (id := 14) rfl) (by simp)) (slI _ (hw.row (id := 15) rfl) (by simp))) ?_; conv => whnf
  intro v16; conv => whnf
  refine ans_call (r := .b false) b31 rfl (fun w' hw => safe_c hb rb nS3 hNok kind3 [1, 2, 3] v5 0 0 right3 1 [2] v16 w' (hH hw rfl) (hS hw rfl) (by simp) (slI _ (hw.row (id := 16) rfl) (by simp))) ?_; conv => whnf
  intro v17; conv => whnf
  refine ans_call (r := .b true) b31 rfl (fun w' hw => safe_c hb rb nS3 hNok kind3 [1, 2, 3] v5 0 0 right3 1 [3, 2] v17 w' (hH hw rfl) (hS hw rfl) (by simp) (slI _ (hw.row (id := 17) rfl) (by simp))) ?_; conv => whnf
  repeat refine zq ?_
  refine At.regionG tab_ok ?_; conv => whnf
  intro v18; conv => whnf
  refine ans_call (r := .i 0) b24 rfl (fun w' hw => may_c hb rb nS3 hNok kind3 nofork3 [1, 2, 3] v5 0 0 right3 1 [3, 2] v18 w' (hH hw rfl) (hS hw rfl) (by simp) (slI _ (hw.row (id := 18) rfl) (by simp))) ?_; conv => whnf
  intro v19; conv => whnf
  refine ans_call (r := .i 18) b24 rfl (fun w' hw => may_c hb rb nS3 hNok kind3 nofork3 [1, 2, 3] v5 0 0 right3 9 [3, 2] v19 w' (hH hw rfl) (hS hw rfl) (by simp) (slI _ (hw.row (id := 19) rfl) (by simp))) ?_; conv => whnf
  intro v20; conv => whnf
  refine ans_call (r := .i 19) b24 rfl (fun w' hw => may_c hb rb nS3 hNok kind3 nofork3 [1, 2, 3] v5 0 0 right3 1 [2] v20 w' (hH hw rfl) (hS hw rfl) (by simp) (slI _ (hw.row (id := 20) rfl) (by simp))) ?_; conv => whnf
  refine ans_call (r := .b true) b16 rfl (fun w' hw => by
   have := same_r hr rb hb rb M nS3 hMok hNok w' (histO_hr (hw.objs _ (look_mem (s := 9) rfl)) hMok (fun b hb => by cases hb)) (hH hw rfl)
   rw [hsame, decide_eq_true rfl] at this; exact this) ?_
  conv => whnf
  repeat refine zq ?_
  refine At.ret (At.doneB tab_ok hB _ rfl fun w' hw => ⟨rfl, hw.fr⟩)
end Go.Proofs.YtdigebokbhmfaaaGreatDoor.Ap
namespace Go.Proofs.YtdigebokbhmfaaaGreatDoor.Ap
open Go.Vc Rt Go.Bs
theorem VI.start (n : Nat) : VI n 0 ⟨[], List.replicate n [], -1, []⟩ := by
 have hU : ∀ m, ¬ inU (List.replicate n []) m := fun m ⟨N, hN, hm⟩ => by
  rw [List.eq_of_mem_replicate hN] at hm; simp [mksN] at hm
 refine ⟨by simp, by simp, fun p hp => (by cases hp), fun N hN => ?_, fun m hm => absurd hm (hU m), fun m m' hm => absurd hm (hU m), fun m hm => absurd hm (hU m), fun j N hj _ m hm => absurd hm (hU m), fun j N hj e => ?_, .inl rfl, by simp⟩
 ·rw [List.eq_of_mem_replicate hN]; exact GN.nil _
 ·simp only at e; omega
theorem mk_lt {R : List SK} {N : List Nd} (h : GN R N) {m : Int} (hm : m ∈ mksN N) : 0 ≤ m ∧ m < R.length := by
 obtain ⟨i, n, hi, rfl⟩ := mks_get hm
 obtain ⟨j, hj, e⟩ := List.mem_map.1 (valid_bd (h.at hi).valid)
 have := List.mem_range.1 hj
 omega
theorem mks_app {N : List Nd} {x : Nd} {m : Int} : m ∈ mksN (N ++ [x]) ↔ m ∈ mksN N ∨ m = x.mark := by
 unfold mksN; rw [List.map_append, List.mem_append, List.map_cons, List.map_nil, List.mem_singleton]
theorem note_ok {n d : Nat} {S : Vil} (h : VI n d S) {a : Nat} {N : List Nd} (hN : S.H[a]? = some N) (hd : d ≤ 100) (hn : n ≤ 4) (hl : S.R.length ≤ 24) : NoteOk (a : Int) ((ownOf N a).length : Int) (d : Int) (headsB N) := by
 have hg := h.good N (List.mem_of_getElem? hN)
 have hal := (List.getElem?_eq_some_iff.1 hN).1
 rw [h.hn] at hal
 have h1 := hg.le_ring
 have h2 : (ownOf N a).length ≤ N.length := by rw [← sortedB_len N]; exact List.length_filter_le _ _
 have h3 := headsB_len N
 refine ⟨⟨by omega, by omega⟩, ⟨by omega, by omega⟩, ⟨by omega, by omega⟩, fun x hx => ?_, by omega, heads_asc hg⟩
 have := mk_lt hg (heads_in hx)
 omega
theorem VI.write {n d : Nat} {S : Vil} (h : VI n d S) {a : Nat} {N : List Nd} (hN : S.H[a]? = some N) (hb : S.back ≠ (a : Int)) (hd : d ≤ 24) (hn : n ≤ 4) {t : List UInt8} (ht : t = entryS (noteE (a : Int) ((ownOf N a).length : Int) (d : Int) (headsB N))) :
  signL S.R a t = S.R ++ [((a : Int), t)] ∧ sgT S.R a t = ((a : Int), t, (S.R.length : Int)) ∧ ∃ x, addB (S.R ++ [((a : Int), t)]) N a t S.R.length = (N ++ [x], 0) ∧ VI n (d + 1) { S with R := S.R ++ [((a : Int), t)], H := S.H.set a (N ++ [x]) } := by
 have hNm := List.mem_of_getElem? hN
 have hg := h.good N hNm
 have hal := (List.getElem?_eq_some_iff.1 hN).1
 have han : a < n := by rw [← h.hn]; exact hal
 have hRl := h.rl
 have hok := note_ok h hN (by omega) hn (by omega)
 have hrd := note_read hok
 have htl := note_len hok
 rw [← ht] at hrd htl
 have hday : (readE t).1.day = (d : Int) := by rw [hrd]; rfl
 have hau : (readE t).1.author = (a : Int) := by rw [hrd]; rfl
 have hfr : ((a : Int), t) ∉ S.R := fun hp => by
  have := (h.ring _ hp).2
  simp only at this
  rw [hday] at this
  omega
 have hkey : isKeyB (a : Int) = true := by unfold isKeyB; simp only [Bool.and_eq_true, decide_eq_true_eq]; omega
 obtain ⟨s1, s2, s3⟩ := sign_new hkey hfr
 have hle : RLe S.R (S.R ++ [((a : Int), t)]) := ⟨_, rfl⟩
 have hg' := hg.le hle
 have hmf : ((S.R.length : Nat) : Int) ∉ mksN N := fun hm => by have := mk_lt hg hm; omega
 obtain ⟨x, hx1, hx2, hx3, hadd⟩ := add_succ hg' (by simp; omega) s3 (by rw [hrd]) hau hmf (fun m hm => by rw [hrd] at hm; exact heads_in hm) (fun hq => by rw [hrd] at hq; exact absurd rfl hq.1)
 refine ⟨s1, s2, x, hadd, ?_⟩
 generalize hR' : S.R ++ [((a : Int), t)] = R' at hle hg' hadd s3
 have hR'l : R'.length = S.R.length + 1 := by rw [← hR']; simp
 have hgx : GN R' (N ++ [x]) := by
  have := hg'.add (a : Int) t (S.R.length : Int)
  rw [hadd] at this; exact this
 have hxe : entR R' x.mark = noteE (a : Int) ((ownOf N a).length : Int) (d : Int) (headsB N) := by rw [hx3, entR_of s3, hrd]
 have hxa : auR R' x.mark = (a : Int) := by unfold auR; rw [hxe]; rfl
 have hxN : x.mark ∈ mksN (N ++ [x]) := mks_app.2 (.inr rfl)
 have hancx : ∀ y, AncR R' y x.mark ↔ y ∈ mksN N := fun y => by
  constructor
  ·intro hy
   have := hgx.anc_in hy N.length x (by simp) rfl
   rwa [List.take_append_of_le_length (Nat.le_refl _), List.take_length] at this
  ·intro hy
   obtain ⟨i, z, hi, rfl⟩ := mks_get hy
   obtain ⟨e, he, hq⟩ := heads_cover hg N.length i z (by omega) hi
   have hek : e ∈ (entR R' x.mark).knows := by rw [hxe]; exact he
   rcases hq with q | q
   ·rw [q]; exact .one hek
   ·exact .more ((anc_le hg hle (heads_in he)).2 q) hek
 have hoe : ∀ {m}, inU S.H m → entR R' m = entR S.R m := fun ⟨M, hM, hm⟩ => entR_le (h.good M hM) hle hm
 have hoa : ∀ {m}, inU S.H m → auR R' m = auR S.R m := fun hm => by unfold auR; rw [hoe hm]
 have honc : ∀ {y m}, inU S.H m → (AncR R' y m ↔ AncR S.R y m) := fun ⟨M, hM, hm⟩ => anc_le (h.good M hM) hle hm
 have hget : ∀ (j : Nat) M, (S.H.set a (N ++ [x]))[j]? = some M → (j = a ∧ M = N ++ [x]) ∨ (j ≠ a ∧ S.H[j]? = some M) := fun j M hj => set_get hj
 have hgrow : ∀ (j : Nat) M, S.H[j]? = some M → ∃ M', (S.H.set a (N ++ [x]))[j]? = some M' ∧ ∀ m ∈ mksN M, m ∈ mksN M' := fun j M hj => by
  by_cases e : j = a
  ·subst e
   rw [hN] at hj; cases hj
   exact ⟨N ++ [x], by rw [List.getElem?_set_self hal], fun m hm => mks_app.2 (.inl hm)⟩
  ·exact ⟨M, by rw [List.getElem?_set_ne (fun q => e q.symm)]; exact hj, fun m hm => hm⟩
 have hU : ∀ m, inU (S.H.set a (N ++ [x])) m → inU S.H m ∨ m = x.mark := fun m ⟨M, hM, hm⟩ => by
  obtain ⟨j, hj⟩ := List.getElem?_of_mem hM
  rcases hget j M hj with ⟨_, rfl⟩ | ⟨_, hj⟩
  ·exact (mks_app.1 hm).imp (fun q => ⟨N, hNm, q⟩) _root_.id
  ·exact .inl ⟨M, List.mem_of_getElem? hj, hm⟩
 have hownA : ∀ m, inU S.H m → auR S.R m = (a : Int) → m ∈ mksN N := fun m hm hma => h.own a N hN (fun e => hb e.symm) m hm hma
 refine ⟨by simp [h.hn], by show R'.length ≤ d + 1; omega, fun p hp => ?_, fun M hM => ?_, fun m hm => ?_, fun m m' hm hm' he => ?_, fun m hm => ?_, fun j M hj hjb m hm hma => ?_, fun j M hj hjb m hm hma => ?_, h.back, by have := h.ml; simp only; omega⟩
 ·simp only at hp
  rw [← hR'] at hp
  rcases List.mem_append.1 hp with hp | hp
  ·have := h.ring p hp
   exact ⟨this.1, by have := this.2; push_cast; omega⟩
  ·rw [List.mem_singleton.1 hp]
   refine ⟨⟨⟨⟨by show _ ≤ (a : Int); omega, by show (a : Int) ≤ _; omega⟩, by show t.length ≤ _; omega⟩, htl⟩, ?_⟩
   have e2 : ∀ q : SK, q.2 = t → (readE q.2).1.day = (d : Int) := fun q hq => by rw [hq]; exact hday
   rw [e2 _ rfl]; push_cast; omega
 ·obtain ⟨j, hj⟩ := List.getElem?_of_mem hM
  rcases hget j M hj with ⟨_, rfl⟩ | ⟨_, hj⟩
  ·exact hgx
  ·exact (h.good M (List.mem_of_getElem? hj)).le hle
 ·rcases hU m hm with hm | rfl
  ·rw [hoe hm]; exact h.note m hm
  ·rw [hxe]; rfl
 ·rcases hU m hm with hm | rfl
  ·rcases hU m' hm' with hm' | rfl
   ·rw [hoa hm, hoa hm'] at he
    rw [honc hm', honc hm]
    exact h.chain m m' hm hm' he
   ·rw [hoa hm, hxa] at he
    exact .inr (.inl ((hancx m).2 (hownA m hm he)))
  ·rcases hU m' hm' with hm' | rfl
   ·rw [hoa hm', hxa] at he
    exact .inr (.inr ((hancx m').2 (hownA m' hm' he.symm)))
   ·exact .inl rfl
 ·rcases hU m hm with ⟨M, hM, hm⟩ | rfl
  ·exact prev_le (h.good M hM) hle hm (h.prev m ⟨M, hM, hm⟩)
  ·have htd := h.tidy hNm
   have hoN : ∀ {y}, y ∈ mksN N → auR R' y = auR S.R y := fun hy => hoa ⟨N, hNm, hy⟩
   have hof : ∀ {y}, y ∈ mksN N → auR R' y = (a : Int) → y ∈ ownOf N a := fun {y} hy hya => own_mem.2 ⟨hy, by rw [hg.entB hy]; exact (hoN hy).symm.trans hya⟩
   rcases Nat.eq_zero_or_pos (ownOf N a).length with h0 | h0
   ·refine .inl ⟨by rw [hxe]; show ((ownOf N a).length : Int) = 0; omega, fun y hy hya => ?_⟩
    have hyN := (hancx y).1 hy
    have := hof hyN (hya.trans hxa)
    rw [List.eq_nil_of_length_eq_zero h0] at this
    cases this
   ·have hp := List.getElem?_eq_getElem (l := ownOf N a) (i := (ownOf N a).length - 1) (by omega)
    generalize (ownOf N a)[(ownOf N a).length - 1] = p at hp
    obtain ⟨hpN, hpa⟩ := own_mem.1 (List.mem_of_getElem? hp)
    rw [hg.entB hpN] at hpa
    have hps := own_seq hg htd a _ p hp
    refine .inr ⟨p, (hancx p).2 hpN, (hoN hpN).trans (hpa.trans hxa.symm), ?_, fun y hy hya => ?_⟩
    ·rw [hxe, hoe ⟨N, hNm, hpN⟩, hps]
     show ((ownOf N a).length : Int) = _
     omega
    ·have hyN := (hancx y).1 hy
     obtain ⟨j, hj⟩ := List.getElem?_of_mem (hof hyN (hya.trans hxa))
     obtain ⟨lj, ej⟩ := List.getElem?_eq_some_iff.1 hj
     obtain ⟨lp, ep⟩ := List.getElem?_eq_some_iff.1 hp
     rcases Nat.lt_or_ge j ((ownOf N a).length - 1) with hlt | hge
     ·have := List.pairwise_iff_getElem.1 (own_chain hg htd a) j _ lj lp hlt
      rw [ej, ep] at this
      exact .inr ((anc_le hg hle hpN).2 this)
     ·have : j = (ownOf N a).length - 1 := by omega
      subst this
      rw [hp] at hj
      exact .inl (Option.some.inj hj).symm
 ·simp only at hjb
  rcases hU m hm with hm0 | rfl
  ·rw [hoa hm0] at hma
   rcases hget j M hj with ⟨rfl, rfl⟩ | ⟨_, hj⟩
   ·exact mks_app.2 (.inl (hownA m hm0 hma))
   ·exact h.own j M hj hjb m hm0 hma
  ·rw [hxa] at hma
   have : j = a := by omega
   subst this
   rcases hget j M hj with ⟨_, rfl⟩ | ⟨e, _⟩
   ·exact hxN
   ·exact absurd rfl e
 ·simp only at hjb
  rcases hU m hm with hm0 | rfl
  ·rw [hoa hm0] at hma
   rcases hget j M hj with ⟨rfl, _⟩ | ⟨_, hj⟩
   ·exact absurd hjb.symm hb
   ·rcases h.lost j M hj hjb m hm0 hma with q | ⟨q, Q, hq, hqm, hqj, hmQ⟩
    ·exact .inl q
    ·obtain ⟨Q', hQ', hs⟩ := hgrow q Q hq
     exact .inr ⟨q, Q', hQ', hqm, hqj, hs m hmQ⟩
  ·rw [hxa] at hma
   exact absurd (hjb.symm.trans hma.symm) hb
end Go.Proofs.YtdigebokbhmfaaaGreatDoor.Ap
namespace Go.Proofs.YtdigebokbhmfaaaGreatDoor.Ap
open Go.Vc Rt Go.Bs
set_option maxHeartbeats 2000000
theorem _root_.Go.Vc.LO.agree' {o : LO} {w w' : World} (h : o.holds w) (ha : ∀ b ∈ o.blks, w'.heap[b]? = w.heap[b]?) : o.holds w' := by
 cases o with
 | box b T c => exact (ha b (by simp [LO.blks])).trans h
 | row v E size L => exact row_agree h ha
 | ab B Q => exact LO.ab_agree h fun b hb => ha b (mem_nub.2 hb)
def rngI (n : Nat) : List Int := (List.range n).map fun i : Nat => (i : Int)
theorem rngI_len (n : Nat) : (rngI n).length = n := by simp [rngI]
def vObjs (b n : Nat) (S : Vil) (rb : Nat) (kv hv mv : Value) (BR : List Nat) (L : List Hi) : List LO :=
 [.box b 55 [.x (ptr rb), .o 1 kv, .i 0, .i 0, .o 2 hv, .i S.back, .o 3 mv], .row kv 3 1 ((rngI n).map encI), .row hv 27 1 (L.map fun y => [.x (ptr y.1)]), .row mv 3 1 (S.met.map encI), ringO rb BR S.R, famO rb L]
def VillQ (b : Nat) (B : List Nat) (n : Nat) (S : Vil) (w : World) : Prop :=
 ∃ rb kv hv mv BR L, L.map (fun y => y.2.2) = S.H ∧ ((vObjs b n S rb kv hv mv BR L).flatMap LO.blks).Nodup ∧ (∀ c ∈ (vObjs b n S rb kv hv mv BR L).flatMap LO.blks, c ∈ B) ∧ ∀ o ∈ vObjs b n S rb kv hv mv BR L, o.holds w
def villO (b : Nat) (B : List Nat) (n : Nat) (S : Vil) : LO := .ab B (VillQ b B n S)
theorem villO_at {b n : Nat} {B : List Nat} {S : Vil} {w : World} (h : (villO b B n S).holds w) : VillQ b B n S w := h.2 w fun _ _ => rfl
theorem vill_of {b n : Nat} {S : Vil} {rb : Nat} {kv hv mv : Value} {BR : List Nat} {L : List Hi} {w : World} (hL : L.map (fun y => y.2.2) = S.H) (hn : ((vObjs b n S rb kv hv mv BR L).flatMap LO.blks).Nodup) (ho : ∀ o ∈ vObjs b n S rb kv hv mv BR L, o.holds w) :
  (villO b ((vObjs b n S rb kv hv mv BR L).flatMap LO.blks) n S).holds w :=
 ⟨fun c hc => by
  obtain ⟨o, hom, hc⟩ := List.mem_flatMap.1 hc
  exact LO.blk_lt (ho o hom) c hc, fun w' ha => ⟨rb, kv, hv, mv, BR, L, hL, hn, fun c hc => hc, fun o hom => LO.agree' (ho o hom) fun c hc => ha c (List.mem_flatMap.2 ⟨o, hom, hc⟩)⟩⟩
theorem vill_close {st : St} {w w' : World} {b n : Nat} {B : List Nat} {S : Vil} {rb : Nat} {kv hv mv : Value} {BR : List Nat} {L : List Hi} (hw : Holds st w') (hk : (keepIds [0, 1, 2, 3, 4, 5] st.hp).map Prod.snd = vObjs b n S rb kv hv mv BR L) (hL : L.map (fun y => y.2.2) = S.H) (hS : st.S = nub B) (hws : st.ws = w) :
  ∃ B', (villO b B' n S).holds w' ∧ Fr (nub B) w w' ∧ ∀ c ∈ nub B', c ∈ nub B ∨ w.heap.size ≤ c := by
 have hk1 : Holds { st with hp := keepIds [0, 1, 2, 3, 4, 5] st.hp } w' := hw.keep [0, 1, 2, 3, 4, 5] rfl rfl rfl
 have e : ({ st with hp := keepIds [0, 1, 2, 3, 4, 5] st.hp } : St).blks = (vObjs b n S rb kv hv mv BR L).flatMap LO.blks := by
  unfold St.blks
  rw [← hk, List.flatMap_map]
 have ho : ∀ o ∈ vObjs b n S rb kv hv mv BR L, o.holds w' := fun o hom => by
  rw [← hk] at hom
  obtain ⟨q, hq, rfl⟩ := List.mem_map.1 hom
  exact hk1.objs q hq
 refine ⟨_, vill_of hL (by rw [← e]; exact hk1.nodup) ho, by rw [← hS, ← hws]; exact hw.fr, fun c hc => ?_⟩
 have := hk1.own c (by rw [e]; exact mem_nub.1 hc)
 rw [← hS, ← hws]
 exact this
theorem vill_open {st st' : St} {w : World} {b n : Nat} {B : List Nat} {S : Vil} {rb : Nat} {kv hv mv : Value} {BR : List Nat} {L : List Hi} {rest : List LO} (hw : Holds st w) (ids : List Nat) (hk : (keepIds ids st.hp).map Prod.snd = villO b B n S :: rest) (h2 : st'.hp.map Prod.snd = vObjs b n S rb kv hv mv BR L ++ rest)
  (hn : ((vObjs b n S rb kv hv mv BR L).flatMap LO.blks).Nodup) (hB : ∀ c ∈ (vObjs b n S rb kv hv mv BR L).flatMap LO.blks, c ∈ B) (ho : ∀ o ∈ vObjs b n S rb kv hv mv BR L, o.holds w) (h3 : st'.S = st.S) (h4 : st'.ws = st.ws) : Holds st' w :=
 hw.recast ids (old := [villO b B n S]) (new := vObjs b n S rb kv hv mv BR L) (rest := rest) hk h2 (fun _ _ => ⟨ho, hn, fun c hc => by simpa [villO, LO.blks] using mem_nub.2 (hB c hc)⟩) h3 h4
theorem add_o (h rb : Nat) (B : List Nat) (N : List Nd) (hN : NOk N) (R : List SK) (k mk : Int) (t : List UInt8) (hk : okSK (k, t)) (ht : t.length ≤ 900000) (w : World) (hG : Gl w) (H : (histO h rb B N).holds w) (hR : RgR B w rb R) :
  Calls Tryz.prog 26 #[ptr h, vSg k t mk] w (fun e w' => ∃ B', e = .returned (vI (addB R N k t mk).2) ∧ (histO h rb B' (addB R N k t mk).1).holds w' ∧ Fr (nub B) w w' ∧ ∀ b ∈ nub B', b ∈ nub B ∨ w.heap.size ≤ b) := by
 obtain ⟨vr, mr, hring, r1, r2, r3⟩ := hR.out
 obtain ⟨h8, v, m, Bs, M, hat, rfl, hsub⟩ := histO_at H
 refine (add_c h rb v m Bs M hN vr mr R k mk t hk ht w hG hat hring (fun b hb => h8 b (hsub b hb)) (fun hm => r1 (hsub _ hm)) (fun hm => r2 (hsub _ hm)) (fun x hx hm => r3 x hx (hsub _ hm))).mono ?_
 rintro e w' ⟨v', Bs', M', he, hM, hadd⟩
 have hnew : ∀ b ∈ partsH h v' m Bs', b ∈ B ∨ w.heap.size ≤ b := by
  intro b hb
  rcases List.mem_cons.1 hb with rfl | hb
  ·exact .inl (hsub _ (List.mem_cons_self ..))
  ·have key : b ∈ blkOf v' ∨ b ∈ Bs' → b ∈ B ∨ w.heap.size ≤ b := fun hb => (hadd.new b hb).elim (fun hb => .inl (hsub b (List.mem_cons_of_mem _ (hb.elim (fun hb => List.mem_append.2 (.inl hb)) (fun hb => List.mem_append.2 (.inr (List.mem_cons_of_mem _ (mem_nub.2 hb)))))))) .inr
   rcases List.mem_append.1 hb with hb | hb
   ·exact key (.inl hb)
   ·rcases List.mem_cons.1 hb with rfl | hb
    ·exact .inl (hsub _ (List.mem_cons_of_mem _ (List.mem_append.2 (.inr (List.mem_cons_self ..)))))
    ·exact key (.inr (mem_nub.1 hb))
 refine ⟨partsH h v' m Bs', he, ?_, hadd.fr.mono fun b hb => .inl (mem_nub.2 (hsub b hb)), fun b hb => (hnew b (mem_nub.1 hb)).imp mem_nub.2 _root_.id⟩
 rw [← hM]
 exact histO_of hadd.at' fun b hb => (hnew b hb).elim (h8 b) (fun h => Nat.le_trans hG.size h)
theorem fam_add {st : St} {d : Option Nat} {K : St → Prop} {id rb : Nat} {L : List Hi} {j : Nat} {y : Hi} {R : List SK} {k mk : Int} {t : List UInt8} (hl : Vc.look st.hp id = some (famO rb L)) (hj : L[j]? = some y) (hN : NOk y.2.2) (hk : okSK (k, t)) (ht : t.length ≤ 900000)
  (hG : ∀ w, Holds st w → Gl w) (hR : ∀ w, Holds st w → RgR (L.flatMap fun y => y.2.1) w rb R)
  (hK : ∀ B', hpSetK st.hp id (famO rb (L.set j (y.1, B', (addB R y.2.2 k t mk).1))) (fun hp => st.withHp hp (fun st' => goPut st' d (.i (addB R y.2.2 k t mk).2) K))) : UCall Tryz.prog st 26 [ptr y.1, vSg k t mk] d K := by
 have hyL := List.mem_of_getElem? hj
 refine fam_call hl hj b26 (fun r B' N' => r = .i (addB R y.2.2 k t mk).2 ∧ N' = (addB R y.2.2 k t mk).1) (fun w hw => ?_) (fun r B' N' ⟨hr, h1⟩ => by subst hr; subst h1; exact ⟨rfl, hK B'⟩)
 obtain ⟨q1, q2⟩ := famO_at (hw.objs _ (look_mem hl))
 refine (add_o y.1 rb y.2.1 y.2.2 hN R k mk t hk ht w (hG w hw) (q2 y hyL) ((hR w hw).avoid fun b hb => .inl (List.mem_flatMap.2 ⟨y, hyL, hb⟩))).mono ?_
 rintro e w' ⟨B', he, ho, hf, hn⟩
 exact ⟨.i (addB R y.2.2 k t mk).2, B', _, he, ⟨rfl, rfl⟩, ho, hf, hn⟩
theorem ptrs_set {L : List Hi} {j : Nat} {y : Hi} (hj : L[j]? = some y) (B' : List Nat) (N' : List Nd) : (L.set j (y.1, B', N')).map (fun y => [CV.x (ptr y.1)]) = L.map fun y => [CV.x (ptr y.1)] := by
 apply List.ext_getElem?
 intro i
 rw [List.getElem?_map, List.getElem?_map, List.getElem?_set]
 split
 ·rename_i e
  subst e
  rw [hj, if_pos (List.getElem?_eq_some_iff.1 hj).1]; rfl
 ·rfl
theorem nds_set {L : List Hi} {j : Nat} {y : Hi} (B' : List Nat) (N' : List Nd) : (L.set j (y.1, B', N')).map (fun y => y.2.2) = (L.map fun y => y.2.2).set j N' := by
 rw [List.map_set]
theorem rngR {n : Nat} (h0 : 1 ≤ n) (h4 : n ≤ 4) : rightS (rngI n) 0 0 = true := by
 rcases n with _ | _ | _ | _ | _ | n
 ·omega
 ·kernel_rfl
 ·kernel_rfl
 ·kernel_rfl
 ·kernel_rfl
 ·omega
theorem rng_has {n a : Nat} (h : a < n) : hasI (rngI n) (a : Int) = true := by
 have : (a : Int) ∈ rngI n := List.mem_map.2 ⟨a, List.mem_range.2 h, rfl⟩
 revert this
 generalize rngI n = l
 intro hm
 induction l with
 | nil => cases hm
 | cons x r ih =>
  unfold hasI
  rcases List.mem_cons.1 hm with rfl | hm
  ·simp
  ·have := ih hm
   unfold hasI at this
   simp at this ⊢
   exact .inr this
theorem hasI_iff {l : List Int} {x : Int} : hasI l x = true ↔ x ∈ l := by
 unfold hasI; simp
theorem may_spec {n a : Nat} (h : a < n) (met : List Int) : mayB (rngI n) a met = 19 ∨ (mayB (rngI n) a met = 0 ∧ ∀ q : Nat, q < n → q ≠ a → (q : Int) ∈ met) := by
 unfold mayB
 rw [rng_has h, if_pos rfl]
 split
 ·rename_i hl
  refine .inr ⟨rfl, fun q hq hqa => ?_⟩
  have hnil := List.eq_nil_of_length_eq_zero hl
  unfold missB at hnil
  rw [List.filter_eq_nil_iff] at hnil
  have := hnil (q : Int) (List.mem_map.2 ⟨q, List.mem_range.2 hq, rfl⟩)
  unfold missK at this
  rw [decide_eq_false (by omega)] at this
  simp only [Bool.not_false, Bool.true_and, Bool.not_eq_true, Bool.not_eq_false'] at this
  exact hasI_iff.1 this
 ·exact .inl rfl
theorem seqW_own {N : List Nd} (a : Int) : seqW N a 0 (marksB N) = ((ownOf N a).length : Int) := by
 have key : ∀ (l : List Int) (q : Int), seqW N a q l = q + ((l.filter fun m => decide ((entB N m).author = a)).length : Int) := by
  intro l
  induction l with
  | nil => intro q; simp [seqW]
  | cons x r ih =>
   intro q
   have e : seqW N a q (x :: r) = seqW N a (if (entB N x).author = a then q + 1 else q) r := rfl
   rw [e, ih, List.filter_cons]
   by_cases h : (entB N x).author = a
   ·rw [if_pos h, decide_eq_true h, if_pos rfl, List.length_cons]; push_cast; omega
   ·rw [if_neg h, decide_eq_false h, if_neg (by decide)]
 rw [key]
 have hp : ((marksB N).filter fun m => decide ((entB N m).author = a)).Perm (ownOf N a) := by
  unfold ownOf
  exact ((marks_perm N).trans (sorted_perm N).symm).filter _
 rw [hp.length_eq]; omega
theorem VI.rg {n d : Nat} {S : Vil} (h : VI n d S) (hd : d ≤ 100) : RgOk S.R := ⟨by have := h.rl; omega, fun p hp => ⟨(h.ring p hp).1.1, by have := (h.ring p hp).1.2; omega⟩⟩
end Go.Proofs.YtdigebokbhmfaaaGreatDoor.Ap
namespace Go.Proofs.YtdigebokbhmfaaaGreatDoor.Ap
open Go.Vc Rt Go.Bs
set_option maxHeartbeats 2000000
theorem write_v (b : Nat) (B : List Nat) (n d : Nat) (S : Vil) (h : VI n d S) (h0 : 1 ≤ n) (h4 : n ≤ 4) (hd : d ≤ 24) (a : Nat) (ha : a < n) (w : World) (hG : Gl w) (H : (villO b B n S).holds w) (h8 : ∀ c ∈ B, 8 ≤ c) :
  Calls Tryz.prog 21 #[ptr b, vI a, vI d] w (fun e w' => ∃ S' B', e = .returned (.bool true) ∧ VI n (d + 1) S' ∧ (villO b B' n S').holds w' ∧ Fr (nub B) w w' ∧ ∀ c ∈ nub B', c ∈ nub B ∨ w.heap.size ≤ c) := by
 have hRo := h.rg (by omega)
 have hen := enter_objs (N := Tryz.f21.ntmps) (l := [.x (ptr b), .i a, .i d]) (hp := [(0, villO b B n S)]) (w := w) (fun o ho => by rw [List.mem_singleton.1 ho]; exact H) (by simp [villO, LO.blks, nub_nodup])
 have hS : ([(0, villO b B n S)].flatMap fun o => o.2.blks) = nub B := by simp [villO, LO.blks]
 rw [hS] at hen
 have hG' : ∀ {w'}, Fr (nub B) w w' → Gl w' := fun hf => hG.fr hf fun c hc => h8 c (mem_nub.1 hc)
 refine calls_atB [.x (ptr b), .i a, .i d] [(0, villO b B n S)] (nub B) Tryz.func21 rfl rfl (Nat.le_of_ble_eq_true rfl) (WF.objs hen trivial trivial) hen fun B0 hB => ?_
 repeat refine zq ?_
 refine zr ?_; conv => whnf
 repeat refine zq ?_
 refine At.reshapeH fun w' hw => ?_
 obtain ⟨rb, kv, hv, mv, BR, L, hL, hnd, hsub, hob⟩ := villO_at (hw.objs _ (look_mem (s := 0) rfl))
 refine ⟨{ N := Tryz.f21.ntmps, sl := [(0, some (.s (.c (.p 0 b 0)))), (1, some (.i a)), (2, some (.i d)), (6, some (.b false))], gl := [], hp := [(0, .box b 55 [.x (ptr rb), .o 1 kv, .i 0, .i 0, .o 2 hv, .i S.back, .o 3 mv]), (1, .row kv 3 1 ((rngI n).map encI)), (2, .row hv 27 1 (L.map fun y => [.x (ptr y.1)])), (3, .row mv 3 1 (S.met.map encI)), (4, ringO rb BR S.R), (5, famO rb L)], S := (nub B), ws := w }, Le.of rfl rfl ⟨rfl, rfl, rfl, rfl, trivial⟩, vill_open (rest := []) hw [0] rfl rfl hnd hsub hob rfl rfl, ⟨⟨_, _, rfl⟩, trivial⟩, ⟨fun c hc => by simp at hc; rcases hc with rfl | rfl | rfl | rfl | rfl | rfl | rfl <;> first | exact ⟨_, _, _, rfl⟩ | exact ⟨_, _, rfl⟩ | trivial, (nopI _).okH, (NoP.map (enc := fun y : Hi => [CV.x (ptr y.1)]) (fun _ => rfl) L).okH, (nopI _).okH, trivial⟩, ?_⟩
 have hLl : L.length = n := by rw [← h.hn, ← hL, List.length_map]
 obtain ⟨y, hy⟩ : ∃ y, L[a]? = some y := ⟨_, List.getElem?_eq_getElem (by omega)⟩
 obtain ⟨p, By, N⟩ := y
 have hN : S.H[a]? = some N := by rw [← hL, List.getElem?_map, hy]; rfl
 have hNm := List.mem_of_getElem? hN
 have hg := h.good N hNm
 have hNo := nok_good hRo hg
 have hNl := hNo.len
 have hml := marksB_len N
 have hhl := headsB_len N
 have hrl : (rngI n).length = n := rngI_len n
 have hHR : ∀ {st : St} {w' : World}, Holds st w' → Vc.look st.hp 5 = some (famO rb L) → HR [] w' p rb N := fun hw hl => fam_hr (y := (p, By, N)) (hw.objs _ (look_mem hl)) hy hNo
 repeat refine zq ?_
 refine zr ?_; conv => whnf
 refine ⟨rfl, ?_⟩; conv => whnf
 refine ⟨by omega, ?_⟩; conv => whnf
 refine ⟨by simp only [List.length_map]; omega, ?_⟩; conv => whnf
 refine ⟨[.x (ptr p)], ⟨rfl, rfl, by omega, by rw [Int.toNat_natCast, List.getElem?_map, hy]; rfl⟩, ?_⟩; conv => whnf
 repeat refine zq ?_
 refine zr ?_; conv => whnf
 repeat refine zq ?_
 refine At.join (fun bk : Int => { N := Tryz.f21.ntmps, sl := [(0, some (.s (.c (.p 0 b 0)))), (1, some (.i a)), (2, some (.i d)), (6, some (.b false)), (7, some (.x ((ptr p))))], gl := [], hp := [(0, .box b 55 [.x (ptr rb), .o 1 kv, .i 0, .i 0, .o 2 hv, .i bk, .o 3 mv]), (1, .row kv 3 1 ((rngI n).map encI)), (2, .row hv 27 1 (L.map fun y => [.x (ptr y.1)])), (3, .row mv 3 1 (S.met.map encI)), (4, ringO rb BR S.R), (5, famO rb L)], S := (nub B), ws := w }) (fun bk : Int => VI n d { S with back := bk } ∧ bk ≠ (a : Int)) ?_ ?_
 ·refine At.cond rfl (fun hq => ?_) (fun hq => At.skip ?_)
  ·have hba : S.back = (a : Int) := of_decide_eq_true hq
   have hmetl := h.ml
   repeat refine zq ?_
   refine At.planG tab_ok mixed [(0, .box b 55 [.x (ptr rb), .o 1 kv, .i 0, .i 0, .o 2 hv, .i S.back, .o 3 mv])] (.take 0 (.take 1 (.take 2 (.take 3 (.take 4 (.take 5 (.take 6 (.take 7 (.take 8 (.take 9 (.br 10 (.take 11 (.done)) (.nob)))))))))))) (by kernel_rfl) (by kernel_rfl) ⟨rfl, trivial⟩ ?_; conv => whnf
   refine ⟨?_, trivial⟩; conv => whnf
   refine ans_call (r := .i (mayB (rngI n) a S.met)) b24 rfl (fun w' hw => may_c p rb N hNo (h.kind hNm) (tidy_nofork hg (h.tidy hNm)) (rngI n) kv 0 0 (rngR h0 h4) a S.met mv w' (hHR hw rfl) (slI _ (hw.row (id := 1) rfl) (by omega)) (by omega) (SlOf.of_row (enc := fun n => [.i n]) (hw.row (id := 3) rfl) (fun _ _ => nilS) (by omega))) ?_; conv => whnf
   refine ⟨⟨⟨rfl, trivial⟩, fun w' hw => hw.fr⟩, ?_⟩; conv => whnf
   rcases may_spec ha S.met with hm | ⟨hm, hall⟩
   ·rw [hm]
    repeat refine zq ?_
    refine zr ?_; conv => whnf
    repeat refine zq ?_
    refine At.cond (t := true) rfl (fun _ => ?_) (fun hq => by cases hq)
    repeat refine zq ?_
    refine zr ?_; conv => whnf
    repeat refine zq ?_
    refine At.ret (At.doneB tab_ok hB _ rfl fun w' hw => ?_)
    obtain ⟨B', q1, q2, q3⟩ := vill_close (S := S) hw rfl hL rfl rfl
    exact ⟨S, B', rfl, h.up, q1, q2, q3⟩
   ·rw [hm]
    repeat refine zq ?_
    refine zr ?_; conv => whnf
    repeat refine zq ?_
    refine At.cond (t := false) rfl (fun hq => by cases hq) (fun _ => At.skip ?_)
    repeat refine zq ?_
    refine zr ?_; conv => whnf
    refine At.meet fun w' hw => ⟨(-1), ⟨h.unback hba hall, by omega⟩, Le.of rfl rfl ⟨rfl, rfl, rfl, rfl, rfl, trivial⟩, hw.keep [0, 1, 2, 3, 4, 5] rfl rfl rfl, ⟨⟨_, _, rfl⟩, trivial⟩, ⟨fun c hc => by simp at hc; rcases hc with rfl | rfl | rfl | rfl | rfl | rfl | rfl <;> first | exact ⟨_, _, _, rfl⟩ | exact ⟨_, _, rfl⟩ | trivial, (nopI _).okH, (NoP.map (enc := fun y : Hi => [CV.x (ptr y.1)]) (fun _ => rfl) L).okH, (nopI _).okH, trivial⟩⟩
  ·have hba : ¬ S.back = (a : Int) := of_decide_eq_false hq
   refine At.meet fun w' hw => ⟨S.back, ⟨h, hba⟩, Le.of rfl rfl ⟨rfl, rfl, rfl, rfl, rfl, trivial⟩, hw.keep [0, 1, 2, 3, 4, 5] rfl rfl rfl, ⟨⟨_, _, rfl⟩, trivial⟩, ⟨fun c hc => by simp at hc; rcases hc with rfl | rfl | rfl | rfl | rfl | rfl | rfl <;> first | exact ⟨_, _, _, rfl⟩ | exact ⟨_, _, rfl⟩ | trivial, (nopI _).okH, (NoP.map (enc := fun y : Hi => [CV.x (ptr y.1)]) (fun _ => rfl) L).okH, (nopI _).okH, trivial⟩⟩
 rintro bk ⟨hv1, hbk⟩
 repeat refine zq ?_
 refine zr ?_; conv => whnf
 repeat refine zq ?_
 refine zr ?_; conv => whnf
 refine ansR_call b12 (rd1 (nopI _)) (fun w' hw => marks_r p rb N hNo w' (hHR hw rfl)) ?_
 intro vm; conv => whnf
 repeat refine zq ?_
 refine zr ?_; conv => whnf
 repeat refine zq ?_
 refine At.block ?_
 refine At.loopH (fun j : Nat => { N := Tryz.f21.ntmps, sl := [(0, some (.s (.c (.p 0 b 0)))), (1, some (.i a)), (2, some (.i d)), (6, some (.b false)), (7, some (.x ((ptr p)))), (9, some (.i ((seqW N a 0 ((marksB N).take j))))), (10, some (.s (.c (.o 6 vm)))), (11, some (.i j))], gl := [], hp := [(6, .row vm 3 1 ((marksB N).map encI)), (0, .box b 55 [.x (ptr rb), .o 1 kv, .i 0, .i 0, .o 2 hv, .i bk, .o 3 mv]), (1, .row kv 3 1 ((rngI n).map encI)), (2, .row hv 27 1 (L.map fun y => [.x (ptr y.1)])), (3, .row mv 3 1 (S.met.map encI)), (4, ringO rb BR S.R), (5, famO rb L)], S := (nub B), ws := w }) (fun j : Nat => j ≤ (marksB N).length) (fun j : Nat => (marksB N).length - j)
  (fun w' hw => ⟨0, Nat.zero_le _, Le.of rfl rfl ⟨rfl, rfl, rfl, rfl, rfl, rfl, rfl, rfl, trivial⟩, hw.keep [6, 0, 1, 2, 3, 4, 5] rfl rfl rfl, ⟨⟨_, _, rfl⟩, ⟨_, _, _, rfl⟩, trivial⟩, ⟨(nopI _).okH, fun c hc => by simp at hc; rcases hc with rfl | rfl | rfl | rfl | rfl | rfl | rfl <;> first | exact ⟨_, _, _, rfl⟩ | exact ⟨_, _, rfl⟩ | trivial, (nopI _).okH, (NoP.map (enc := fun y : Hi => [CV.x (ptr y.1)]) (fun _ => rfl) L).okH, (nopI _).okH, trivial⟩⟩) ?_
 intro j hj
 repeat refine zq ?_
 refine zr ?_; conv => whnf
 refine ⟨rfl, ?_⟩; conv => whnf
 repeat refine zq ?_
 refine At.cond rfl (fun hc => At.skip ?_) (fun hc => At.exit ?_)
 ·have hlt : j < (marksB N).length := by have := of_decide_eq_true hc; simp only [List.length_map] at this; omega
  obtain ⟨x, hx⟩ : ∃ x, (marksB N)[j]? = some x := ⟨_, List.getElem?_eq_getElem hlt⟩
  obtain ⟨hs1, hs2⟩ := seqW_bd N (a : Int) ((marksB N).take j) 0
  rw [List.length_take] at hs2
  have hsn : seqW N (a : Int) 0 ((marksB N).take (j + 1)) = if (entB N x).author = (a : Int) then seqW N (a : Int) 0 ((marksB N).take j) + 1 else seqW N (a : Int) 0 ((marksB N).take j) := by
   rw [take_snoc hx]; unfold seqW; rw [List.foldl_append]; rfl
  generalize seqW N (a : Int) 0 ((marksB N).take j) = sq at hs1 hs2 hsn ⊢
  repeat refine zq ?_
  refine At.block ?_
  repeat refine zq ?_
  refine zr ?_; conv => whnf
  refine ⟨rfl, ?_⟩; conv => whnf
  refine ⟨by omega, ?_⟩; conv => whnf
  refine ⟨by (try simp only [List.length_map]); omega, ?_⟩; conv => whnf
  refine ⟨encI x, ⟨rfl, rfl, by omega, by rw [Int.toNat_natCast, List.getElem?_map, hx]; rfl⟩, ?_⟩; conv => whnf
  refine entry_call (h := p) (rb := rb) (N := N) (mk := x) hNo (fun w' hw => hHR hw rfl) ?_
  intro k4 y5 s6; conv => whnf
  intro b7; conv => whnf
  repeat refine zq ?_
  refine zr ?_; conv => whnf
  repeat refine zq ?_
  refine At.cond rfl (fun hq => ?_) (fun hq => At.skip ?_)
  ·have hqa : (entB N x).author = (a : Int) := of_decide_eq_true hq
   rw [if_pos hqa] at hsn
   repeat refine zq ?_
   refine zr ?_; conv => whnf
   refine ⟨⟨by omega, by omega⟩, ?_⟩; conv => whnf
   repeat refine zq ?_
   refine zr ?_; conv => whnf
   refine ⟨⟨by omega, by omega⟩, ?_⟩; conv => whnf
   refine At.nextH fun w' hw => ⟨j + 1, by omega, by omega, Le.of rfl rfl ⟨rfl, rfl, rfl, rfl, rfl, congrArg (Value.int .i64) (by rw [hsn]), rfl, rfl, trivial⟩, hw.keep [6, 0, 1, 2, 3, 4, 5] rfl rfl rfl, ⟨⟨_, _, rfl⟩, ⟨_, _, _, rfl⟩, trivial⟩, ⟨(nopI _).okH, fun c hc => by simp at hc; rcases hc with rfl | rfl | rfl | rfl | rfl | rfl | rfl <;> first | exact ⟨_, _, _, rfl⟩ | exact ⟨_, _, rfl⟩ | trivial, (nopI _).okH, (NoP.map (enc := fun y : Hi => [CV.x (ptr y.1)]) (fun _ => rfl) L).okH, (nopI _).okH, trivial⟩⟩
  ·have hqa : ¬ (entB N x).author = (a : Int) := of_decide_eq_false hq
   rw [if_neg hqa] at hsn
   repeat refine zq ?_
   refine zr ?_; conv => whnf
   refine ⟨⟨by omega, by omega⟩, ?_⟩; conv => whnf
   refine At.nextH fun w' hw => ⟨j + 1, by omega, by omega, Le.of rfl rfl ⟨rfl, rfl, rfl, rfl, rfl, congrArg (Value.int .i64) (by rw [hsn]), rfl, rfl, trivial⟩, hw.keep [6, 0, 1, 2, 3, 4, 5] rfl rfl rfl, ⟨⟨_, _, rfl⟩, ⟨_, _, _, rfl⟩, trivial⟩, ⟨(nopI _).okH, fun c hc => by simp at hc; rcases hc with rfl | rfl | rfl | rfl | rfl | rfl | rfl <;> first | exact ⟨_, _, _, rfl⟩ | exact ⟨_, _, rfl⟩ | trivial, (nopI _).okH, (NoP.map (enc := fun y : Hi => [CV.x (ptr y.1)]) (fun _ => rfl) L).okH, (nopI _).okH, trivial⟩⟩
 have hge : j = (marksB N).length := by have := of_decide_eq_false hc; simp only [List.length_map] at this; omega
 subst hge
 rw [List.take_length, seqW_own]
 have hRl24 := h.rl
 have hok := note_ok h hN (by omega) h4 (by omega)
 have htl := note_len hok
 generalize ht : entryS (noteE (a : Int) ((ownOf N a).length : Int) (d : Int) (headsB N)) = t at htl
 obtain ⟨s1, s2, x, hadd, hVI⟩ := hv1.write (t := t) hN hbk hd h4 ht.symm
 simp only at s1 s2 hadd hVI
 have hok2 : okSK ((a : Int), t) := ⟨⟨by show _ ≤ (a : Int); omega, by show (a : Int) ≤ _; omega⟩, by show t.length ≤ _; omega⟩
 repeat refine zq ?_
 refine zr ?_; conv => whnf
 refine ansR_call b49 (rd1 (nopI _)) (fun w' hw => heads_r p rb N hNo w' (hHR hw rfl)) ?_
 intro vh; conv => whnf
 refine ansG_call (G := ∃ a n c, vh = .slice a n c) (r := .s (.agg (encE (noteE a ((ownOf N a).length : Int) 0 []) vh (.slice none 0 0) (.slice none 0 0)))) b25 rfl (fun w' hw => ⟨hw.sl (id := 7) rfl, note_c a ((ownOf N a).length : Int) vh (by obtain ⟨a, n, c, e⟩ := hw.sl (id := 7) rfl; rw [e]; rfl) w'⟩) ?_
 intro hvh; conv => whnf
 have oh : vh.oneCell' = true := by obtain ⟨a, n, c, e⟩ := hvh; rw [e]; rfl
 intro b14; conv => whnf
 refine ⟨oh, ?_⟩; conv => whnf
 refine ⟨rfl, ?_⟩; conv => whnf
 refine ⟨rfl, ?_⟩; conv => whnf
 repeat refine zq ?_
 refine zr ?_; conv => whnf
 repeat refine zq ?_
 refine At.planG tab_ok mixed [(0, .box b 55 [.x (ptr rb), .o 1 kv, .i 0, .i 0, .o 2 hv, .i bk, .o 3 mv]), (8, .box b14 40 (encE (noteE a ((ownOf N a).length : Int) d []) vh (.slice none 0 0) (.slice none 0 0)))] (.take 0 (.take 1 (.take 2 (.take 3 (.take 4 (.take 5 (.take 6 (.br 7 (.br 8 (.br 9 (.take 10 (.take 11 (.done))) (.nob)) (.nob)) (.nob))))))))) (by kernel_rfl) (by kernel_rfl) ⟨rfl, rfl, trivial⟩ ?_; conv => whnf
 refine ⟨?_, trivial⟩; conv => whnf
 refine ans_call (r := rS t) b28 rfl (fun w' hw => by have := etext_c (noteE (a : Int) ((ownOf N a).length : Int) (d : Int) (headsB N)) vh (.slice none 0 0) (.slice none 0 0) [] w' ⟨slI _ (hw.row (id := 7) rfl) (by show (headsB N).length ≤ _; omega), nilI, nilSp⟩ (note_R hok) (hG' hw.fr); rw [ht] at this; exact this) ?_; conv => whnf
 refine ⟨⟨⟨rfl, rfl, trivial⟩, fun w' hw => hw.fr⟩, ?_⟩; conv => whnf
 refine ⟨?_, trivial⟩; conv => whnf
 refine sign_call (id := 4) (rb := rb) (B := BR) (R := S.R) (k := (a : Int)) (t := t) rfl hok2 (by omega) (fun w' hw => (hG' hw.fr).size) ?_
 intro BR2
 rw [s1, s2]
 conv => whnf
 refine ⟨⟨⟨rfl, rfl, trivial⟩, fun w' hw => hw.fr⟩, ?_⟩; conv => whnf
 refine ⟨?_, trivial⟩; conv => whnf
 refine fam_add (id := 5) (rb := rb) (L := L) (j := a) (y := (p, By, N)) (R := S.R ++ [((a : Int), t)]) (k := (a : Int)) (mk := (S.R.length : Int)) (t := t) rfl hy hNo hok2 (by omega) (fun w' hw => hG' hw.fr) (fun w' hw => ringO_rr (hw.objs _ (look_mem (s := 4) rfl)) (fun b hb hm => hw.apart (i := 5) (j := 4) rfl rfl (by decide) b (mem_nub.2 hb) (mem_nub.2 hm))) ?_
 intro B4
 rw [hadd]
 conv => whnf
 refine ⟨⟨⟨rfl, rfl, trivial⟩, fun w' hw => hw.fr⟩, ?_⟩; conv => whnf
 repeat refine zq ?_
 refine At.ret (At.doneB tab_ok hB _ rfl fun w' hw => ?_)
 obtain ⟨B', q1, q2, q3⟩ := vill_close (S := { S with R := S.R ++ [((a : Int), t)], H := S.H.set a (N ++ [x]), back := bk }) (L := L.set a (p, B4, N ++ [x])) hw (by rw [vObjs, ptrs_set hy]; rfl) (by have := nds_set (L := L) (j := a) (y := (p, By, N)) B4 (N ++ [x]); rw [hL] at this; exact this) rfl rfl
 exact ⟨_, B', rfl, hVI, q1, q2, q3⟩
end Go.Proofs.YtdigebokbhmfaaaGreatDoor.Ap
