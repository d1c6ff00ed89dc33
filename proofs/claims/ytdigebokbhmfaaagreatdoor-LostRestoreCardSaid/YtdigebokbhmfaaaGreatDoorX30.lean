/- Texts that the law leans on. -/
import Derived.Test.YtdigebokbhmfaaaGreatDoorX29
import Derived.Test.YtdigebokbhmfaaaGreatDoorX27
import Derived.Test.YtdigebokbhmfaaaGreatDoorX22
import Derived.Test.YtdigebokbhmfaaaGreatDoorX25
set_option linter.unusedVariables false
set_option linter.unusedSimpArgs false
namespace Go.Proofs.YtdigebokbhmfaaaGreatDoor.Ap
open Go.Vc Rt Go.Bs
set_option maxHeartbeats 1000000
@[reducible] def encVo (p : Int × Int) : List CV := [.i p.1, .i p.2]
def voT : Ty (Int × Int) := flat 2 encVo (fun _ => rfl)
theorem nopVo (xs : List (Int × Int)) : NoP (xs.map encVo) := NoP.map (fun _ => rfl) xs
theorem cloneVo_c (xs : List (Int × Int)) (v : Value) (w : World) (h : SlOf voT [] w v xs) (hB : xs.length ≤ 1000000) : AnsR Tryz.prog 169 [v] [.row 193 2 (xs.map encVo)] w := by
 refine calls_plainB [.x v] Tryz.func169 rfl rfl (Nat.le_of_ble_eq_true rfl) rfl fun B hB => ?_
 repeat refine zq ?_
 refine zr ?_; conv => whnf
 repeat refine zq ?_
 refine zr ?_; conv => whnf
 refine ⟨h.sl, ?_⟩; conv => whnf
 repeat refine zq ?_
 refine At.cond rfl (fun hq => ?_) (fun hq => ?_)
 ·have hx : xs = [] := by
   obtain ⟨a, n, c, rfl, hnil, _⟩ := h.sl
   have hl := h.len
   cases a with
   | none => simp [slen] at hl; exact List.eq_nil_of_length_eq_zero (by omega)
   | some a => simp [isNilS] at hq
  subst hx
  repeat refine zq ?_
  refine zr ?_; conv => whnf
  repeat refine zq ?_
  refine At.ret (At.doneB tab_ok hB _ rfl fun w' hw => ansR_nil hw rfl rfl)
 ·refine At.skip ?_
  repeat refine zq ?_
  refine zr ?_; conv => whnf
  intro v1; conv => whnf
  refine ⟨xs.map encVo, ⟨fun w' hw => (h.fr hw.fr).src (fun _ => rfl), nopVo xs⟩, ?_⟩; conv => whnf
  refine ⟨⟨rfl, by simp; omega⟩, ?_⟩; conv => whnf
  intro v2; conv => whnf
  repeat refine zq ?_
  refine At.ret (At.doneB tab_ok hB _ rfl fun w' hw => ansR_row (id := 0) hw rfl rfl rfl)
theorem cloneLots_nil (w : World) : Ans Tryz.prog 168 [.slice none 0 0] (.x (.slice none 0 0)) w := by
 refine calls_plainB [.x (.slice none 0 0)] Tryz.func168 rfl rfl (Nat.le_of_ble_eq_true rfl) rfl fun B hB => ?_
 repeat refine zq ?_
 refine zr ?_; conv => whnf
 repeat refine zq ?_
 refine zr ?_; conv => whnf
 refine ⟨nilSl, ?_⟩; conv => whnf
 repeat refine zq ?_
 refine At.cond (t := true) rfl (fun _ => ?_) (fun hq => by cases hq)
 repeat refine zq ?_
 refine zr ?_; conv => whnf
 repeat refine zq ?_
 refine At.ret (At.doneB tab_ok hB _ rfl fun w' hw => ⟨rfl, hw.fr⟩)
theorem cloneCirc_nil (w : World) : Ans Tryz.prog 170 [.slice none 0 0] (.x (.slice none 0 0)) w := by
 refine calls_plainB [.x (.slice none 0 0)] Tryz.func170 rfl rfl (Nat.le_of_ble_eq_true rfl) rfl fun B hB => ?_
 repeat refine zq ?_
 refine zr ?_; conv => whnf
 repeat refine zq ?_
 refine zr ?_; conv => whnf
 refine ⟨nilSl, ?_⟩; conv => whnf
 repeat refine zq ?_
 refine At.cond (t := true) rfl (fun _ => ?_) (fun hq => by cases hq)
 repeat refine zq ?_
 refine zr ?_; conv => whnf
 repeat refine zq ?_
 refine At.ret (At.doneB tab_ok hB _ rfl fun w' hw => ⟨rfl, hw.fr⟩)
theorem slVo {w : World} {v : Value} {E : Nat} (xs : List (Int × Int)) (h : (LO.row v E 2 (xs.map encVo)).holds w) (hl : xs.length ≤ 1000000) : SlOf voT [] w v xs := SlOf.of_row (enc := encVo) h (fun _ _ => nilS) (by omega)
structure Rows2 (ks : List Int) (vo : List (Int × Int)) (n0 : Nat) (w : World) (k v : Value) : Prop where
 rk : (LO.row k 3 1 (ks.map encI)).holds w
 rv : (LO.row v 193 2 (vo.map encVo)).holds w
 fresh : ∀ b, b ∈ blkOf k ∨ b ∈ blkOf v → n0 ≤ b
 dkv : ∀ b ∈ blkOf k, b ∉ blkOf v
theorem rows2_call {st : St} {d : Option Nat} {K : St → Prop} {f : FuncId} {args : List Value} {ks : List Int} (Pv : List (Int × Int) → Prop) (F : Nat → Value → Nat → Value → RV) (G : Value → Value → Value) (hF : ∀ n1 k n2 v, (F n1 k n2 v).den = G k v)
  (hok : ∀ hp n1 k n2 v, (∃ a n c, k = .slice a n c) → (∃ a n c, v = .slice a n c) → RVok hp (F n1 k n2 v)) (hb : Body Tryz.prog f)
  (h : ∀ w, Holds st w → Calls Tryz.prog f args.toArray w (fun e w' => ∃ vo k v, Pv vo ∧ e = .returned (G k v) ∧ Rows2 ks vo w.heap.size w' k v ∧ Ext w w'))
  (hk : ∀ vo k v, Pv vo → st.pushK (.row k 3 1 (ks.map encI)) (fun n1 st1 => st1.pushK (.row v 193 2 (vo.map encVo)) (fun n2 st2 => goPut st2 d (F n1 k n2 v) K))) :
  UCall Tryz.prog st f args d K :=
 .inl ⟨hb, fun hwf w hw => (h w hw).mono fun e w' ⟨vo, k, v, hp, he, hr, hx⟩ => by
  have hk' := hk vo k v hp
  simp only [pushK_eq] at hk'
  have hlt := hw.blk_lt
  have hS : ∀ b, w.heap.size ≤ b → st.ws.heap.size ≤ b := fun b hb => Nat.le_trans hw.fr.size hb
  have hw1 : Holds (st.push (.row k 3 1 (ks.map encI))) w' := (hw.ext hx).pushO hr.rk fun b hb => ⟨fun hm => by have := hlt b hm; have := hr.fresh b (.inl hb); omega, .inr (hS b (hr.fresh b (.inl hb)))⟩
  have hw2 : Holds ((st.push (.row k 3 1 (ks.map encI))).push (.row v 193 2 (vo.map encVo))) w' := hw1.pushO hr.rv fun b hb => ⟨fun hm => by
   rcases mem_blks_push hm with hm | hm
   ·exact hr.dkv b hm hb
   ·have := hlt b hm; have := hr.fresh b (.inr hb); omega, .inr (hS b (hr.fresh b (.inr hb)))⟩
  have ok1 : LOok st.hp (.row k 3 1 (ks.map encI)) := ⟨rows_some hr.rk, (nopI _).ok⟩
  have ok2 : LOok (st.push (.row k 3 1 (ks.map encI))).hp (.row v 193 2 (vo.map encVo)) := ⟨rows_some hr.rv, (nopVo _).ok⟩
  exact ⟨_, _, he.trans (congrArg Ending.returned (hF _ _ _ _).symm), push_same.trans push_same, (hwf.push ok1).push ok2, hok _ _ _ _ _ (ownsAt_slice hr.rk.1) (ownsAt_slice hr.rv.1), hw2, hk'⟩⟩
@[reducible] def fSt (n1 : Nat) (k : Value) (n2 : Nat) (v : Value) : RV := .s (.agg [.i 0, .o n1 k, .x (.slice none 0 0), .x (.slice none 0 0), .o n2 v])
theorem fSt_ok (hp : List (Nat × LO)) (n1 : Nat) (k : Value) (n2 : Nat) (v : Value) (hk : ∃ a n c, k = .slice a n c) (hv : ∃ a n c, v = .slice a n c) : RVok hp (fSt n1 k n2 v) := fun c hc => by
 simp only [List.mem_cons, List.not_mem_nil, or_false] at hc
 rcases hc with rfl | rfl | rfl | rfl | rfl
 ·trivial
 ·exact hk
 ·trivial
 ·trivial
 ·exact hv
@[reducible] def fSe (er : Int) (n1 : Nat) (k : Value) (n2 : Nat) (v : Value) : RV := .tup [.agg [.i 0, .o n1 k, .x (.slice none 0 0), .x (.slice none 0 0), .o n2 v], .c (.i er)]
theorem fSe_ok (er : Int) (hp : List (Nat × LO)) (n1 : Nat) (k : Value) (n2 : Nat) (v : Value) (hk : ∃ a n c, k = .slice a n c) (hv : ∃ a n c, v = .slice a n c) : RVok hp (fSe er n1 k n2 v) := fun c hc => by
 simp only [List.mem_cons, List.not_mem_nil, or_false] at hc
 rcases hc with rfl | rfl
 ·exact fSt_ok hp n1 k n2 v hk hv
 ·trivial
abbrev StF (f : FuncId) (args : List Value) (ks : List Int) (Pv : List (Int × Int) → Prop) (w : World) : Prop :=
 Calls Tryz.prog f args.toArray w (fun e w' => ∃ vo k v, Pv vo ∧ e = .returned (vStt k v) ∧ Rows2 ks vo w.heap.size w' k v ∧ Ext w w')
theorem rows2_of {st : St} {w w' : World} {i j : Nat} {k v : Value} {ks : List Int} {vo : List (Int × Int)} (hw : Holds st w') (hi : Vc.look st.hp i = some (.row k 3 1 (ks.map encI))) (hj : Vc.look st.hp j = some (.row v 193 2 (vo.map encVo))) (hne : i ≠ j) (hS : st.S = []) (hws : st.ws = w) : Rows2 ks vo w.heap.size w' k v ∧ Ext w w' := by
 subst hws
 refine ⟨⟨hw.row hi, hw.row hj, fun b hb => ?_, hw.apart hi hj hne⟩, by have := hw.fr; rwa [hS] at this⟩
 rcases hb with hb | hb
 ·exact (hw.fresh hi b hb).elim (fun h => by rw [hS] at h; cases h) _root_.id
 ·exact (hw.fresh hj b hb).elim (fun h => by rw [hS] at h; cases h) _root_.id
theorem copySt_c (ks : List Int) (vo : List (Int × Int)) (kv vv : Value) (w : World) (hk : SlOf intT [] w kv ks) (hv : SlOf voT [] w vv vo) (hkl : ks.length ≤ 1000000) (hvl : vo.length ≤ 1000000) : StF 132 [vStt kv vv] ks (fun vo' => vo' = vo) w := by
 refine calls_e [.s (.agg (encStt kv vv))] Tryz.func132 rfl rfl (Nat.le_of_ble_eq_true rfl) trivial fun B hB => ?_
 repeat refine zq ?_
 refine zr ?_; conv => whnf
 refine ⟨hk.one, ?_⟩; conv => whnf
 refine ⟨rfl, ?_⟩; conv => whnf
 refine ⟨rfl, ?_⟩; conv => whnf
 refine ⟨hv.one, ?_⟩; conv => whnf
 intro b1; conv => whnf
 intro b2; conv => whnf
 repeat refine zq ?_
 refine At.join (fun p' : Value × Value => { N := Tryz.f132.ntmps, sl := [(1, some (.s (.c (.p 0 b1 0)))), (2, some (.s (.c (.p 1 b2 0))))], gl := [], hp := [(3, .row p'.2 193 2 (vo.map encVo)), (2, .row p'.1 3 1 (ks.map encI)), (1, .box b2 115 [.i 0, .x (.slice none 0 0), .x (.slice none 0 0), .x (.slice none 0 0), .x (.slice none 0 0)]), (0, .box b1 115 [.i 0, .o 2 p'.1, .x (.slice none 0 0), .x (.slice none 0 0), .o 3 p'.2])], S := [], ws := w }) (fun p' : Value × Value => True) ?_ ?_
 ·repeat refine zq ?_
  refine At.planG tab_ok mixed [] (.take 0 (.take 3 (.take 6 (.br 1 (.br 2 (.br 4 (.br 5 (.br 7 (.take 9 (.br 8 (.br 10 (.take 11 (.br 12 (.take 13 (.br 14 (.done) (.nob))) (.nob))) (.nob)) (.nob))) (.nob)) (.br 7 (.take 9 (.br 5 (.br 8 (.br 10 (.take 11 (.br 12 (.take 13 (.br 14 (.done) (.nob))) (.nob))) (.nob)) (.nob)) (.nob))) (.nob))) (.br 7 (.br 4 (.take 9 (.br 5 (.br 8 (.br 10 (.take 11 (.br 12 (.take 13 (.br 14 (.done) (.nob))) (.nob))) (.nob)) (.nob)) (.nob))) (.nob)) (.nob))) (.br 4 (.br 2 (.br 5 (.br 7 (.take 9 (.br 8 (.br 10 (.take 11 (.br 12 (.take 13 (.br 14 (.done) (.nob))) (.nob))) (.nob)) (.nob))) (.nob)) (.br 7 (.take 9 (.br 5 (.br 8 (.br 10 (.take 11 (.br 12 (.take 13 (.br 14 (.done) (.nob))) (.nob))) (.nob)) (.nob)) (.nob))) (.nob))) (.br 7 (.br 2 (.take 9 (.br 5 (.br 8 (.br 10 (.take 11 (.br 12 (.take 13 (.br 14 (.done) (.nob))) (.nob))) (.nob)) (.nob)) (.nob))) (.nob)) (.nob))) (.br 7 (.br 2 (.br 4 (.take 9 (.br 5 (.br 8 (.br 10 (.take 11 (.br 12 (.take 13 (.br 14 (.done) (.nob))) (.nob))) (.nob)) (.nob)) (.nob))) (.nob)) (.br 4 (.br 2 (.take 9 (.br 5 (.br 8 (.br 10 (.take 11 (.br 12 (.take 13 (.br 14 (.done) (.nob))) (.nob))) (.nob)) (.nob)) (.nob))) (.nob)) (.nob))) (.nob)))) (.br 4 (.br 1 (.br 2 (.br 5 (.br 7 (.take 9 (.br 8 (.br 10 (.take 11 (.br 12 (.take 13 (.br 14 (.done) (.nob))) (.nob))) (.nob)) (.nob))) (.nob)) (.br 7 (.take 9 (.br 5 (.br 8 (.br 10 (.take 11 (.br 12 (.take 13 (.br 14 (.done) (.nob))) (.nob))) (.nob)) (.nob)) (.nob))) (.nob))) (.br 7 (.br 2 (.take 9 (.br 5 (.br 8 (.br 10 (.take 11 (.br 12 (.take 13 (.br 14 (.done) (.nob))) (.nob))) (.nob)) (.nob)) (.nob))) (.nob)) (.nob))) (.br 7 (.br 1 (.br 2 (.take 9 (.br 5 (.br 8 (.br 10 (.take 11 (.br 12 (.take 13 (.br 14 (.done) (.nob))) (.nob))) (.nob)) (.nob)) (.nob))) (.nob)) (.nob)) (.nob))) (.br 7 (.br 1 (.br 2 (.br 4 (.take 9 (.br 5 (.br 8 (.br 10 (.take 11 (.br 12 (.take 13 (.br 14 (.done) (.nob))) (.nob))) (.nob)) (.nob)) (.nob))) (.nob)) (.br 4 (.br 2 (.take 9 (.br 5 (.br 8 (.br 10 (.take 11 (.br 12 (.take 13 (.br 14 (.done) (.nob))) (.nob))) (.nob)) (.nob)) (.nob))) (.nob)) (.nob))) (.br 4 (.br 1 (.br 2 (.take 9 (.br 5 (.br 8 (.br 10 (.take 11 (.br 12 (.take 13 (.br 14 (.done) (.nob))) (.nob))) (.nob)) (.nob)) (.nob))) (.nob)) (.nob)) (.nob))) (.nob))))))) (by kernel_rfl) (by kernel_rfl) trivial ?_; conv => whnf
  refine ⟨?_, ?_, ?_, trivial⟩
  ·conv => whnf
   refine ⟨⟨trivial, fun w' hw => hw.fr⟩, ?_⟩; conv => whnf
   refine ⟨?_, ?_, ?_, trivial⟩
   ·conv => whnf
    refine ansR_call b45 (rd1 (nopI _)) (fun w' hw => cloneI_c ks [] kv w' (hk.ext hw.fr) hkl) ?_
    intro k2; conv => whnf
    refine ⟨⟨trivial, fun w' hw => hw.fr⟩, ?_⟩; conv => whnf
    refine ⟨?_, ?_, trivial⟩
    ·conv => whnf
     refine ⟨⟨trivial, fun w' hw => hw.fr⟩, ?_⟩; conv => whnf
     refine ⟨?_, ?_, trivial⟩
     ·conv => whnf
      refine ans_call (r := .x (.slice none 0 0)) b168 rfl (fun w' _ => cloneLots_nil w') ?_; conv => whnf
      refine ⟨⟨trivial, fun w' hw => hw.fr⟩, ?_⟩; conv => whnf
      refine ⟨?_, trivial⟩; conv => whnf
      refine ⟨⟨trivial, fun w' hw => hw.fr⟩, ?_⟩; conv => whnf
      refine ⟨?_, trivial⟩; conv => whnf
      refine ansR_call b169 (rd1 (nopVo _)) (fun w' hw => cloneVo_c vo vv w' (hv.ext hw.fr) hvl) ?_
      intro v2; conv => whnf
      refine ⟨⟨trivial, fun w' hw => hw.fr⟩, ?_⟩; conv => whnf
      refine ⟨?_, trivial⟩; conv => whnf
      refine ⟨⟨trivial, fun w' hw => hw.fr⟩, ?_⟩; conv => whnf
      refine ⟨?_, trivial⟩; conv => whnf
      refine ⟨rfl, ?_⟩; conv => whnf
      refine ⟨⟨trivial, fun w' hw => hw.fr⟩, ?_⟩; conv => whnf
      refine ⟨?_, trivial⟩; conv => whnf
      refine ⟨⟨trivial, fun w' hw => hw.fr⟩, ?_⟩; conv => whnf
      refine At.meet fun w' hw => ⟨(k2, v2), trivial, Le.of rfl rfl ⟨rfl, rfl, trivial⟩, hw.keep [3, 2, 1, 0] rfl rfl rfl, ⟨⟨_, _, rfl⟩, ⟨_, _, rfl⟩, trivial⟩, ⟨(nopVo _).okH, (nopI _).okH, fun c hc => by simp at hc; rcases hc with rfl | rfl | rfl | rfl | rfl <;> first | exact ⟨_, _, _, rfl⟩ | exact ⟨_, _, rfl⟩ | trivial, trivial⟩⟩
     ·conv => whnf
      refine ⟨⟨trivial, fun w' hw => hw.fr⟩, ?_⟩; conv => whnf
      refine ⟨?_, trivial⟩; conv => whnf
      refine ans_call (r := .x (.slice none 0 0)) b168 rfl (fun w' _ => cloneLots_nil w') ?_; conv => whnf
      refine ⟨⟨trivial, fun w' hw => hw.fr⟩, ?_⟩; conv => whnf
      refine ⟨?_, trivial⟩; conv => whnf
      refine ansR_call b169 (rd1 (nopVo _)) (fun w' hw => cloneVo_c vo vv w' (hv.ext hw.fr) hvl) ?_
      intro v2; conv => whnf
      refine ⟨⟨trivial, fun w' hw => hw.fr⟩, ?_⟩; conv => whnf
      refine ⟨?_, trivial⟩; conv => whnf
      refine ⟨⟨trivial, fun w' hw => hw.fr⟩, ?_⟩; conv => whnf
      refine ⟨?_, trivial⟩; conv => whnf
      refine ⟨rfl, ?_⟩; conv => whnf
      refine ⟨⟨trivial, fun w' hw => hw.fr⟩, ?_⟩; conv => whnf
      refine ⟨?_, trivial⟩; conv => whnf
      refine ⟨⟨trivial, fun w' hw => hw.fr⟩, ?_⟩; conv => whnf
      refine At.meet fun w' hw => ⟨(k2, v2), trivial, Le.of rfl rfl ⟨rfl, rfl, trivial⟩, hw.keep [3, 2, 1, 0] rfl rfl rfl, ⟨⟨_, _, rfl⟩, ⟨_, _, rfl⟩, trivial⟩, ⟨(nopVo _).okH, (nopI _).okH, fun c hc => by simp at hc; rcases hc with rfl | rfl | rfl | rfl | rfl <;> first | exact ⟨_, _, _, rfl⟩ | exact ⟨_, _, rfl⟩ | trivial, trivial⟩⟩
    ·conv => whnf
     refine ⟨⟨trivial, fun w' hw => hw.fr⟩, ?_⟩; conv => whnf
     refine ⟨?_, trivial⟩; conv => whnf
     refine ⟨⟨trivial, fun w' hw => hw.fr⟩, ?_⟩; conv => whnf
     refine ⟨?_, trivial⟩; conv => whnf
     refine ans_call (r := .x (.slice none 0 0)) b168 rfl (fun w' _ => cloneLots_nil w') ?_; conv => whnf
     refine ⟨⟨trivial, fun w' hw => hw.fr⟩, ?_⟩; conv => whnf
     refine ⟨?_, trivial⟩; conv => whnf
     refine ansR_call b169 (rd1 (nopVo _)) (fun w' hw => cloneVo_c vo vv w' (hv.ext hw.fr) hvl) ?_
     intro v2; conv => whnf
     refine ⟨⟨trivial, fun w' hw => hw.fr⟩, ?_⟩; conv => whnf
     refine ⟨?_, trivial⟩; conv => whnf
     refine ⟨⟨trivial, fun w' hw => hw.fr⟩, ?_⟩; conv => whnf
     refine ⟨?_, trivial⟩; conv => whnf
     refine ⟨rfl, ?_⟩; conv => whnf
     refine ⟨⟨trivial, fun w' hw => hw.fr⟩, ?_⟩; conv => whnf
     refine ⟨?_, trivial⟩; conv => whnf
     refine ⟨⟨trivial, fun w' hw => hw.fr⟩, ?_⟩; conv => whnf
     refine At.meet fun w' hw => ⟨(k2, v2), trivial, Le.of rfl rfl ⟨rfl, rfl, trivial⟩, hw.keep [3, 2, 1, 0] rfl rfl rfl, ⟨⟨_, _, rfl⟩, ⟨_, _, rfl⟩, trivial⟩, ⟨(nopVo _).okH, (nopI _).okH, fun c hc => by simp at hc; rcases hc with rfl | rfl | rfl | rfl | rfl <;> first | exact ⟨_, _, _, rfl⟩ | exact ⟨_, _, rfl⟩ | trivial, trivial⟩⟩
   ·conv => whnf
    refine ⟨⟨trivial, fun w' hw => hw.fr⟩, ?_⟩; conv => whnf
    refine ⟨?_, ?_, trivial⟩
    ·conv => whnf
     refine ansR_call b45 (rd1 (nopI _)) (fun w' hw => cloneI_c ks [] kv w' (hk.ext hw.fr) hkl) ?_
     intro k2; conv => whnf
     refine ⟨⟨trivial, fun w' hw => hw.fr⟩, ?_⟩; conv => whnf
     refine ⟨?_, ?_, trivial⟩
     ·conv => whnf
      refine ans_call (r := .x (.slice none 0 0)) b168 rfl (fun w' _ => cloneLots_nil w') ?_; conv => whnf
      refine ⟨⟨trivial, fun w' hw => hw.fr⟩, ?_⟩; conv => whnf
      refine ⟨?_, trivial⟩; conv => whnf
      refine ⟨⟨trivial, fun w' hw => hw.fr⟩, ?_⟩; conv => whnf
      refine ⟨?_, trivial⟩; conv => whnf
      refine ansR_call b169 (rd1 (nopVo _)) (fun w' hw => cloneVo_c vo vv w' (hv.ext hw.fr) hvl) ?_
      intro v2; conv => whnf
      refine ⟨⟨trivial, fun w' hw => hw.fr⟩, ?_⟩; conv => whnf
      refine ⟨?_, trivial⟩; conv => whnf
      refine ⟨⟨trivial, fun w' hw => hw.fr⟩, ?_⟩; conv => whnf
      refine ⟨?_, trivial⟩; conv => whnf
      refine ⟨rfl, ?_⟩; conv => whnf
      refine ⟨⟨trivial, fun w' hw => hw.fr⟩, ?_⟩; conv => whnf
      refine ⟨?_, trivial⟩; conv => whnf
      refine ⟨⟨trivial, fun w' hw => hw.fr⟩, ?_⟩; conv => whnf
      refine At.meet fun w' hw => ⟨(k2, v2), trivial, Le.of rfl rfl ⟨rfl, rfl, trivial⟩, hw.keep [3, 2, 1, 0] rfl rfl rfl, ⟨⟨_, _, rfl⟩, ⟨_, _, rfl⟩, trivial⟩, ⟨(nopVo _).okH, (nopI _).okH, fun c hc => by simp at hc; rcases hc with rfl | rfl | rfl | rfl | rfl <;> first | exact ⟨_, _, _, rfl⟩ | exact ⟨_, _, rfl⟩ | trivial, trivial⟩⟩
     ·conv => whnf
      refine ⟨⟨trivial, fun w' hw => hw.fr⟩, ?_⟩; conv => whnf
      refine ⟨?_, trivial⟩; conv => whnf
      refine ans_call (r := .x (.slice none 0 0)) b168 rfl (fun w' _ => cloneLots_nil w') ?_; conv => whnf
      refine ⟨⟨trivial, fun w' hw => hw.fr⟩, ?_⟩; conv => whnf
      refine ⟨?_, trivial⟩; conv => whnf
      refine ansR_call b169 (rd1 (nopVo _)) (fun w' hw => cloneVo_c vo vv w' (hv.ext hw.fr) hvl) ?_
      intro v2; conv => whnf
      refine ⟨⟨trivial, fun w' hw => hw.fr⟩, ?_⟩; conv => whnf
      refine ⟨?_, trivial⟩; conv => whnf
      refine ⟨⟨trivial, fun w' hw => hw.fr⟩, ?_⟩; conv => whnf
      refine ⟨?_, trivial⟩; conv => whnf
      refine ⟨rfl, ?_⟩; conv => whnf
      refine ⟨⟨trivial, fun w' hw => hw.fr⟩, ?_⟩; conv => whnf
      refine ⟨?_, trivial⟩; conv => whnf
      refine ⟨⟨trivial, fun w' hw => hw.fr⟩, ?_⟩; conv => whnf
      refine At.meet fun w' hw => ⟨(k2, v2), trivial, Le.of rfl rfl ⟨rfl, rfl, trivial⟩, hw.keep [3, 2, 1, 0] rfl rfl rfl, ⟨⟨_, _, rfl⟩, ⟨_, _, rfl⟩, trivial⟩, ⟨(nopVo _).okH, (nopI _).okH, fun c hc => by simp at hc; rcases hc with rfl | rfl | rfl | rfl | rfl <;> first | exact ⟨_, _, _, rfl⟩ | exact ⟨_, _, rfl⟩ | trivial, trivial⟩⟩
    ·conv => whnf
     refine ⟨⟨trivial, fun w' hw => hw.fr⟩, ?_⟩; conv => whnf
     refine ⟨?_, trivial⟩; conv => whnf
     refine ansR_call b45 (rd1 (nopI _)) (fun w' hw => cloneI_c ks [] kv w' (hk.ext hw.fr) hkl) ?_
     intro k2; conv => whnf
     refine ⟨⟨trivial, fun w' hw => hw.fr⟩, ?_⟩; conv => whnf
     refine ⟨?_, trivial⟩; conv => whnf
     refine ans_call (r := .x (.slice none 0 0)) b168 rfl (fun w' _ => cloneLots_nil w') ?_; conv => whnf
     refine ⟨⟨trivial, fun w' hw => hw.fr⟩, ?_⟩; conv => whnf
     refine ⟨?_, trivial⟩; conv => whnf
     refine ansR_call b169 (rd1 (nopVo _)) (fun w' hw => cloneVo_c vo vv w' (hv.ext hw.fr) hvl) ?_
     intro v2; conv => whnf
     refine ⟨⟨trivial, fun w' hw => hw.fr⟩, ?_⟩; conv => whnf
     refine ⟨?_, trivial⟩; conv => whnf
     refine ⟨⟨trivial, fun w' hw => hw.fr⟩, ?_⟩; conv => whnf
     refine ⟨?_, trivial⟩; conv => whnf
     refine ⟨rfl, ?_⟩; conv => whnf
     refine ⟨⟨trivial, fun w' hw => hw.fr⟩, ?_⟩; conv => whnf
     refine ⟨?_, trivial⟩; conv => whnf
     refine ⟨⟨trivial, fun w' hw => hw.fr⟩, ?_⟩; conv => whnf
     refine At.meet fun w' hw => ⟨(k2, v2), trivial, Le.of rfl rfl ⟨rfl, rfl, trivial⟩, hw.keep [3, 2, 1, 0] rfl rfl rfl, ⟨⟨_, _, rfl⟩, ⟨_, _, rfl⟩, trivial⟩, ⟨(nopVo _).okH, (nopI _).okH, fun c hc => by simp at hc; rcases hc with rfl | rfl | rfl | rfl | rfl <;> first | exact ⟨_, _, _, rfl⟩ | exact ⟨_, _, rfl⟩ | trivial, trivial⟩⟩
   ·conv => whnf
    refine ⟨⟨trivial, fun w' hw => hw.fr⟩, ?_⟩; conv => whnf
    refine ⟨?_, ?_, trivial⟩
    ·conv => whnf
     refine ansR_call b45 (rd1 (nopI _)) (fun w' hw => cloneI_c ks [] kv w' (hk.ext hw.fr) hkl) ?_
     intro k2; conv => whnf
     refine ⟨⟨trivial, fun w' hw => hw.fr⟩, ?_⟩; conv => whnf
     refine ⟨?_, trivial⟩; conv => whnf
     refine ⟨⟨trivial, fun w' hw => hw.fr⟩, ?_⟩; conv => whnf
     refine ⟨?_, trivial⟩; conv => whnf
     refine ans_call (r := .x (.slice none 0 0)) b168 rfl (fun w' _ => cloneLots_nil w') ?_; conv => whnf
     refine ⟨⟨trivial, fun w' hw => hw.fr⟩, ?_⟩; conv => whnf
     refine ⟨?_, trivial⟩; conv => whnf
     refine ansR_call b169 (rd1 (nopVo _)) (fun w' hw => cloneVo_c vo vv w' (hv.ext hw.fr) hvl) ?_
     intro v2; conv => whnf
     refine ⟨⟨trivial, fun w' hw => hw.fr⟩, ?_⟩; conv => whnf
     refine ⟨?_, trivial⟩; conv => whnf
     refine ⟨⟨trivial, fun w' hw => hw.fr⟩, ?_⟩; conv => whnf
     refine ⟨?_, trivial⟩; conv => whnf
     refine ⟨rfl, ?_⟩; conv => whnf
     refine ⟨⟨trivial, fun w' hw => hw.fr⟩, ?_⟩; conv => whnf
     refine ⟨?_, trivial⟩; conv => whnf
     refine ⟨⟨trivial, fun w' hw => hw.fr⟩, ?_⟩; conv => whnf
     refine At.meet fun w' hw => ⟨(k2, v2), trivial, Le.of rfl rfl ⟨rfl, rfl, trivial⟩, hw.keep [3, 2, 1, 0] rfl rfl rfl, ⟨⟨_, _, rfl⟩, ⟨_, _, rfl⟩, trivial⟩, ⟨(nopVo _).okH, (nopI _).okH, fun c hc => by simp at hc; rcases hc with rfl | rfl | rfl | rfl | rfl <;> first | exact ⟨_, _, _, rfl⟩ | exact ⟨_, _, rfl⟩ | trivial, trivial⟩⟩
    ·conv => whnf
     refine ⟨⟨trivial, fun w' hw => hw.fr⟩, ?_⟩; conv => whnf
     refine ⟨?_, trivial⟩; conv => whnf
     refine ansR_call b45 (rd1 (nopI _)) (fun w' hw => cloneI_c ks [] kv w' (hk.ext hw.fr) hkl) ?_
     intro k2; conv => whnf
     refine ⟨⟨trivial, fun w' hw => hw.fr⟩, ?_⟩; conv => whnf
     refine ⟨?_, trivial⟩; conv => whnf
     refine ans_call (r := .x (.slice none 0 0)) b168 rfl (fun w' _ => cloneLots_nil w') ?_; conv => whnf
     refine ⟨⟨trivial, fun w' hw => hw.fr⟩, ?_⟩; conv => whnf
     refine ⟨?_, trivial⟩; conv => whnf
     refine ansR_call b169 (rd1 (nopVo _)) (fun w' hw => cloneVo_c vo vv w' (hv.ext hw.fr) hvl) ?_
     intro v2; conv => whnf
     refine ⟨⟨trivial, fun w' hw => hw.fr⟩, ?_⟩; conv => whnf
     refine ⟨?_, trivial⟩; conv => whnf
     refine ⟨⟨trivial, fun w' hw => hw.fr⟩, ?_⟩; conv => whnf
     refine ⟨?_, trivial⟩; conv => whnf
     refine ⟨rfl, ?_⟩; conv => whnf
     refine ⟨⟨trivial, fun w' hw => hw.fr⟩, ?_⟩; conv => whnf
     refine ⟨?_, trivial⟩; conv => whnf
     refine ⟨⟨trivial, fun w' hw => hw.fr⟩, ?_⟩; conv => whnf
     refine At.meet fun w' hw => ⟨(k2, v2), trivial, Le.of rfl rfl ⟨rfl, rfl, trivial⟩, hw.keep [3, 2, 1, 0] rfl rfl rfl, ⟨⟨_, _, rfl⟩, ⟨_, _, rfl⟩, trivial⟩, ⟨(nopVo _).okH, (nopI _).okH, fun c hc => by simp at hc; rcases hc with rfl | rfl | rfl | rfl | rfl <;> first | exact ⟨_, _, _, rfl⟩ | exact ⟨_, _, rfl⟩ | trivial, trivial⟩⟩
  ·conv => whnf
   refine ⟨⟨trivial, fun w' hw => hw.fr⟩, ?_⟩; conv => whnf
   refine ⟨?_, ?_, trivial⟩
   ·conv => whnf
    refine ⟨⟨trivial, fun w' hw => hw.fr⟩, ?_⟩; conv => whnf
    refine ⟨?_, ?_, trivial⟩
    ·conv => whnf
     refine ansR_call b45 (rd1 (nopI _)) (fun w' hw => cloneI_c ks [] kv w' (hk.ext hw.fr) hkl) ?_
     intro k2; conv => whnf
     refine ⟨⟨trivial, fun w' hw => hw.fr⟩, ?_⟩; conv => whnf
     refine ⟨?_, ?_, trivial⟩
     ·conv => whnf
      refine ans_call (r := .x (.slice none 0 0)) b168 rfl (fun w' _ => cloneLots_nil w') ?_; conv => whnf
      refine ⟨⟨trivial, fun w' hw => hw.fr⟩, ?_⟩; conv => whnf
      refine ⟨?_, trivial⟩; conv => whnf
      refine ⟨⟨trivial, fun w' hw => hw.fr⟩, ?_⟩; conv => whnf
      refine ⟨?_, trivial⟩; conv => whnf
      refine ansR_call b169 (rd1 (nopVo _)) (fun w' hw => cloneVo_c vo vv w' (hv.ext hw.fr) hvl) ?_
      intro v2; conv => whnf
      refine ⟨⟨trivial, fun w' hw => hw.fr⟩, ?_⟩; conv => whnf
      refine ⟨?_, trivial⟩; conv => whnf
      refine ⟨⟨trivial, fun w' hw => hw.fr⟩, ?_⟩; conv => whnf
      refine ⟨?_, trivial⟩; conv => whnf
      refine ⟨rfl, ?_⟩; conv => whnf
      refine ⟨⟨trivial, fun w' hw => hw.fr⟩, ?_⟩; conv => whnf
      refine ⟨?_, trivial⟩; conv => whnf
      refine ⟨⟨trivial, fun w' hw => hw.fr⟩, ?_⟩; conv => whnf
      refine At.meet fun w' hw => ⟨(k2, v2), trivial, Le.of rfl rfl ⟨rfl, rfl, trivial⟩, hw.keep [3, 2, 1, 0] rfl rfl rfl, ⟨⟨_, _, rfl⟩, ⟨_, _, rfl⟩, trivial⟩, ⟨(nopVo _).okH, (nopI _).okH, fun c hc => by simp at hc; rcases hc with rfl | rfl | rfl | rfl | rfl <;> first | exact ⟨_, _, _, rfl⟩ | exact ⟨_, _, rfl⟩ | trivial, trivial⟩⟩
     ·conv => whnf
      refine ⟨⟨trivial, fun w' hw => hw.fr⟩, ?_⟩; conv => whnf
      refine ⟨?_, trivial⟩; conv => whnf
      refine ans_call (r := .x (.slice none 0 0)) b168 rfl (fun w' _ => cloneLots_nil w') ?_; conv => whnf
      refine ⟨⟨trivial, fun w' hw => hw.fr⟩, ?_⟩; conv => whnf
      refine ⟨?_, trivial⟩; conv => whnf
      refine ansR_call b169 (rd1 (nopVo _)) (fun w' hw => cloneVo_c vo vv w' (hv.ext hw.fr) hvl) ?_
      intro v2; conv => whnf
      refine ⟨⟨trivial, fun w' hw => hw.fr⟩, ?_⟩; conv => whnf
      refine ⟨?_, trivial⟩; conv => whnf
      refine ⟨⟨trivial, fun w' hw => hw.fr⟩, ?_⟩; conv => whnf
      refine ⟨?_, trivial⟩; conv => whnf
      refine ⟨rfl, ?_⟩; conv => whnf
      refine ⟨⟨trivial, fun w' hw => hw.fr⟩, ?_⟩; conv => whnf
      refine ⟨?_, trivial⟩; conv => whnf
      refine ⟨⟨trivial, fun w' hw => hw.fr⟩, ?_⟩; conv => whnf
      refine At.meet fun w' hw => ⟨(k2, v2), trivial, Le.of rfl rfl ⟨rfl, rfl, trivial⟩, hw.keep [3, 2, 1, 0] rfl rfl rfl, ⟨⟨_, _, rfl⟩, ⟨_, _, rfl⟩, trivial⟩, ⟨(nopVo _).okH, (nopI _).okH, fun c hc => by simp at hc; rcases hc with rfl | rfl | rfl | rfl | rfl <;> first | exact ⟨_, _, _, rfl⟩ | exact ⟨_, _, rfl⟩ | trivial, trivial⟩⟩
    ·conv => whnf
     refine ⟨⟨trivial, fun w' hw => hw.fr⟩, ?_⟩; conv => whnf
     refine ⟨?_, trivial⟩; conv => whnf
     refine ansR_call b45 (rd1 (nopI _)) (fun w' hw => cloneI_c ks [] kv w' (hk.ext hw.fr) hkl) ?_
     intro k2; conv => whnf
     refine ⟨⟨trivial, fun w' hw => hw.fr⟩, ?_⟩; conv => whnf
     refine ⟨?_, trivial⟩; conv => whnf
     refine ans_call (r := .x (.slice none 0 0)) b168 rfl (fun w' _ => cloneLots_nil w') ?_; conv => whnf
     refine ⟨⟨trivial, fun w' hw => hw.fr⟩, ?_⟩; conv => whnf
     refine ⟨?_, trivial⟩; conv => whnf
     refine ansR_call b169 (rd1 (nopVo _)) (fun w' hw => cloneVo_c vo vv w' (hv.ext hw.fr) hvl) ?_
     intro v2; conv => whnf
     refine ⟨⟨trivial, fun w' hw => hw.fr⟩, ?_⟩; conv => whnf
     refine ⟨?_, trivial⟩; conv => whnf
     refine ⟨⟨trivial, fun w' hw => hw.fr⟩, ?_⟩; conv => whnf
     refine ⟨?_, trivial⟩; conv => whnf
     refine ⟨rfl, ?_⟩; conv => whnf
     refine ⟨⟨trivial, fun w' hw => hw.fr⟩, ?_⟩; conv => whnf
     refine ⟨?_, trivial⟩; conv => whnf
     refine ⟨⟨trivial, fun w' hw => hw.fr⟩, ?_⟩; conv => whnf
     refine At.meet fun w' hw => ⟨(k2, v2), trivial, Le.of rfl rfl ⟨rfl, rfl, trivial⟩, hw.keep [3, 2, 1, 0] rfl rfl rfl, ⟨⟨_, _, rfl⟩, ⟨_, _, rfl⟩, trivial⟩, ⟨(nopVo _).okH, (nopI _).okH, fun c hc => by simp at hc; rcases hc with rfl | rfl | rfl | rfl | rfl <;> first | exact ⟨_, _, _, rfl⟩ | exact ⟨_, _, rfl⟩ | trivial, trivial⟩⟩
   ·conv => whnf
    refine ⟨⟨trivial, fun w' hw => hw.fr⟩, ?_⟩; conv => whnf
    refine ⟨?_, trivial⟩; conv => whnf
    refine ⟨⟨trivial, fun w' hw => hw.fr⟩, ?_⟩; conv => whnf
    refine ⟨?_, trivial⟩; conv => whnf
    refine ansR_call b45 (rd1 (nopI _)) (fun w' hw => cloneI_c ks [] kv w' (hk.ext hw.fr) hkl) ?_
    intro k2; conv => whnf
    refine ⟨⟨trivial, fun w' hw => hw.fr⟩, ?_⟩; conv => whnf
    refine ⟨?_, trivial⟩; conv => whnf
    refine ans_call (r := .x (.slice none 0 0)) b168 rfl (fun w' _ => cloneLots_nil w') ?_; conv => whnf
    refine ⟨⟨trivial, fun w' hw => hw.fr⟩, ?_⟩; conv => whnf
    refine ⟨?_, trivial⟩; conv => whnf
    refine ansR_call b169 (rd1 (nopVo _)) (fun w' hw => cloneVo_c vo vv w' (hv.ext hw.fr) hvl) ?_
    intro v2; conv => whnf
    refine ⟨⟨trivial, fun w' hw => hw.fr⟩, ?_⟩; conv => whnf
    refine ⟨?_, trivial⟩; conv => whnf
    refine ⟨⟨trivial, fun w' hw => hw.fr⟩, ?_⟩; conv => whnf
    refine ⟨?_, trivial⟩; conv => whnf
    refine ⟨rfl, ?_⟩; conv => whnf
    refine ⟨⟨trivial, fun w' hw => hw.fr⟩, ?_⟩; conv => whnf
    refine ⟨?_, trivial⟩; conv => whnf
    refine ⟨⟨trivial, fun w' hw => hw.fr⟩, ?_⟩; conv => whnf
    refine At.meet fun w' hw => ⟨(k2, v2), trivial, Le.of rfl rfl ⟨rfl, rfl, trivial⟩, hw.keep [3, 2, 1, 0] rfl rfl rfl, ⟨⟨_, _, rfl⟩, ⟨_, _, rfl⟩, trivial⟩, ⟨(nopVo _).okH, (nopI _).okH, fun c hc => by simp at hc; rcases hc with rfl | rfl | rfl | rfl | rfl <;> first | exact ⟨_, _, _, rfl⟩ | exact ⟨_, _, rfl⟩ | trivial, trivial⟩⟩
  ·conv => whnf
   refine ⟨⟨trivial, fun w' hw => hw.fr⟩, ?_⟩; conv => whnf
   refine ⟨?_, ?_, trivial⟩
   ·conv => whnf
    refine ⟨⟨trivial, fun w' hw => hw.fr⟩, ?_⟩; conv => whnf
    refine ⟨?_, ?_, trivial⟩
    ·conv => whnf
     refine ansR_call b45 (rd1 (nopI _)) (fun w' hw => cloneI_c ks [] kv w' (hk.ext hw.fr) hkl) ?_
     intro k2; conv => whnf
     refine ⟨⟨trivial, fun w' hw => hw.fr⟩, ?_⟩; conv => whnf
     refine ⟨?_, trivial⟩; conv => whnf
     refine ⟨⟨trivial, fun w' hw => hw.fr⟩, ?_⟩; conv => whnf
     refine ⟨?_, trivial⟩; conv => whnf
     refine ans_call (r := .x (.slice none 0 0)) b168 rfl (fun w' _ => cloneLots_nil w') ?_; conv => whnf
     refine ⟨⟨trivial, fun w' hw => hw.fr⟩, ?_⟩; conv => whnf
     refine ⟨?_, trivial⟩; conv => whnf
     refine ansR_call b169 (rd1 (nopVo _)) (fun w' hw => cloneVo_c vo vv w' (hv.ext hw.fr) hvl) ?_
     intro v2; conv => whnf
     refine ⟨⟨trivial, fun w' hw => hw.fr⟩, ?_⟩; conv => whnf
     refine ⟨?_, trivial⟩; conv => whnf
     refine ⟨⟨trivial, fun w' hw => hw.fr⟩, ?_⟩; conv => whnf
     refine ⟨?_, trivial⟩; conv => whnf
     refine ⟨rfl, ?_⟩; conv => whnf
     refine ⟨⟨trivial, fun w' hw => hw.fr⟩, ?_⟩; conv => whnf
     refine ⟨?_, trivial⟩; conv => whnf
     refine ⟨⟨trivial, fun w' hw => hw.fr⟩, ?_⟩; conv => whnf
     refine At.meet fun w' hw => ⟨(k2, v2), trivial, Le.of rfl rfl ⟨rfl, rfl, trivial⟩, hw.keep [3, 2, 1, 0] rfl rfl rfl, ⟨⟨_, _, rfl⟩, ⟨_, _, rfl⟩, trivial⟩, ⟨(nopVo _).okH, (nopI _).okH, fun c hc => by simp at hc; rcases hc with rfl | rfl | rfl | rfl | rfl <;> first | exact ⟨_, _, _, rfl⟩ | exact ⟨_, _, rfl⟩ | trivial, trivial⟩⟩
    ·conv => whnf
     refine ⟨⟨trivial, fun w' hw => hw.fr⟩, ?_⟩; conv => whnf
     refine ⟨?_, trivial⟩; conv => whnf
     refine ansR_call b45 (rd1 (nopI _)) (fun w' hw => cloneI_c ks [] kv w' (hk.ext hw.fr) hkl) ?_
     intro k2; conv => whnf
     refine ⟨⟨trivial, fun w' hw => hw.fr⟩, ?_⟩; conv => whnf
     refine ⟨?_, trivial⟩; conv => whnf
     refine ans_call (r := .x (.slice none 0 0)) b168 rfl (fun w' _ => cloneLots_nil w') ?_; conv => whnf
     refine ⟨⟨trivial, fun w' hw => hw.fr⟩, ?_⟩; conv => whnf
     refine ⟨?_, trivial⟩; conv => whnf
     refine ansR_call b169 (rd1 (nopVo _)) (fun w' hw => cloneVo_c vo vv w' (hv.ext hw.fr) hvl) ?_
     intro v2; conv => whnf
     refine ⟨⟨trivial, fun w' hw => hw.fr⟩, ?_⟩; conv => whnf
     refine ⟨?_, trivial⟩; conv => whnf
     refine ⟨⟨trivial, fun w' hw => hw.fr⟩, ?_⟩; conv => whnf
     refine ⟨?_, trivial⟩; conv => whnf
     refine ⟨rfl, ?_⟩; conv => whnf
     refine ⟨⟨trivial, fun w' hw => hw.fr⟩, ?_⟩; conv => whnf
     refine ⟨?_, trivial⟩; conv => whnf
     refine ⟨⟨trivial, fun w' hw => hw.fr⟩, ?_⟩; conv => whnf
     refine At.meet fun w' hw => ⟨(k2, v2), trivial, Le.of rfl rfl ⟨rfl, rfl, trivial⟩, hw.keep [3, 2, 1, 0] rfl rfl rfl, ⟨⟨_, _, rfl⟩, ⟨_, _, rfl⟩, trivial⟩, ⟨(nopVo _).okH, (nopI _).okH, fun c hc => by simp at hc; rcases hc with rfl | rfl | rfl | rfl | rfl <;> first | exact ⟨_, _, _, rfl⟩ | exact ⟨_, _, rfl⟩ | trivial, trivial⟩⟩
   ·conv => whnf
    refine ⟨⟨trivial, fun w' hw => hw.fr⟩, ?_⟩; conv => whnf
    refine ⟨?_, trivial⟩; conv => whnf
    refine ⟨⟨trivial, fun w' hw => hw.fr⟩, ?_⟩; conv => whnf
    refine ⟨?_, trivial⟩; conv => whnf
    refine ansR_call b45 (rd1 (nopI _)) (fun w' hw => cloneI_c ks [] kv w' (hk.ext hw.fr) hkl) ?_
    intro k2; conv => whnf
    refine ⟨⟨trivial, fun w' hw => hw.fr⟩, ?_⟩; conv => whnf
    refine ⟨?_, trivial⟩; conv => whnf
    refine ans_call (r := .x (.slice none 0 0)) b168 rfl (fun w' _ => cloneLots_nil w') ?_; conv => whnf
    refine ⟨⟨trivial, fun w' hw => hw.fr⟩, ?_⟩; conv => whnf
    refine ⟨?_, trivial⟩; conv => whnf
    refine ansR_call b169 (rd1 (nopVo _)) (fun w' hw => cloneVo_c vo vv w' (hv.ext hw.fr) hvl) ?_
    intro v2; conv => whnf
    refine ⟨⟨trivial, fun w' hw => hw.fr⟩, ?_⟩; conv => whnf
    refine ⟨?_, trivial⟩; conv => whnf
    refine ⟨⟨trivial, fun w' hw => hw.fr⟩, ?_⟩; conv => whnf
    refine ⟨?_, trivial⟩; conv => whnf
    refine ⟨rfl, ?_⟩; conv => whnf
    refine ⟨⟨trivial, fun w' hw => hw.fr⟩, ?_⟩; conv => whnf
    refine ⟨?_, trivial⟩; conv => whnf
    refine ⟨⟨trivial, fun w' hw => hw.fr⟩, ?_⟩; conv => whnf
    refine At.meet fun w' hw => ⟨(k2, v2), trivial, Le.of rfl rfl ⟨rfl, rfl, trivial⟩, hw.keep [3, 2, 1, 0] rfl rfl rfl, ⟨⟨_, _, rfl⟩, ⟨_, _, rfl⟩, trivial⟩, ⟨(nopVo _).okH, (nopI _).okH, fun c hc => by simp at hc; rcases hc with rfl | rfl | rfl | rfl | rfl <;> first | exact ⟨_, _, _, rfl⟩ | exact ⟨_, _, rfl⟩ | trivial, trivial⟩⟩
 rintro ⟨k2, v2⟩ _
 simp only
 repeat refine zq ?_
 refine zr ?_; conv => whnf
 refine ans_call (r := .x (.slice none 0 0)) b170 rfl (fun w' _ => cloneCirc_nil w') ?_; conv => whnf
 refine ⟨rfl, ?_⟩; conv => whnf
 repeat refine zq ?_
 refine zr ?_; conv => whnf
 refine ⟨nilSl, ?_⟩; conv => whnf
 repeat refine zq ?_
 refine At.block ?_
 refine At.loopH (fun u : Nat => { N := Tryz.f132.ntmps, sl := [(1, some (.s (.c (.p 0 b1 0)))), (2, some (.s (.c (.p 1 b2 0)))), (23, some (.i 0)), (24, some (.i 0))], gl := [], hp := [(3, .row v2 193 2 (vo.map encVo)), (2, .row k2 3 1 (ks.map encI)), (1, .box b2 115 [.i 0, .x (.slice none 0 0), .x (.slice none 0 0), .x (.slice none 0 0), .x (.slice none 0 0)]), (0, .box b1 115 [.i 0, .o 2 k2, .x (.slice none 0 0), .x (.slice none 0 0), .o 3 v2])], S := [], ws := w }) (fun u : Nat => True) (fun u : Nat => 0)
  (fun w' hw => ⟨0, trivial, Le.of rfl rfl ⟨rfl, rfl, rfl, rfl, trivial⟩, hw.keep [3, 2, 1, 0] rfl rfl rfl, ⟨⟨_, _, rfl⟩, ⟨_, _, rfl⟩, trivial⟩, ⟨(nopVo _).okH, (nopI _).okH, fun c hc => by simp at hc; rcases hc with rfl | rfl | rfl | rfl | rfl <;> first | exact ⟨_, _, _, rfl⟩ | exact ⟨_, _, rfl⟩ | trivial, trivial⟩⟩) ?_
 intro u _
 repeat refine zq ?_
 refine zr ?_; conv => whnf
 repeat refine zq ?_
 refine At.cond rfl (fun hq => ?_) (fun _ => At.exit ?_)
 ·exact absurd (of_decide_eq_true hq) (by decide)
 repeat refine zq ?_
 refine zr ?_; conv => whnf
 refine ⟨rfl, ?_⟩; conv => whnf
 refine ⟨rfl, ?_⟩; conv => whnf
 repeat refine zq ?_
 refine At.ret (At.doneB tab_ok hB _ rfl fun w' hw => ⟨vo, k2, v2, rfl, rfl, rows2_of hw (i := 2) (j := 3) rfl rfl (by decide) rfl rfl⟩)
theorem begin_c (ks : List Int) (skv : Value) (liars seed : Int) (w : World) (hk : SlOf intT [] w skv ks) (hkl : ks.length ≤ 1000000) : StF 79 [vSt skv liars seed] ks (fun vo' => vo' = []) w := by
 refine calls_e [.s (.agg (encSt skv liars seed))] Tryz.func79 rfl rfl (Nat.le_of_ble_eq_true rfl) trivial fun B hB => ?_
 repeat refine zq ?_
 refine zr ?_; conv => whnf
 refine ⟨hk.one, ?_⟩; conv => whnf
 intro b1; conv => whnf
 intro b2; conv => whnf
 repeat refine zq ?_
 refine zr ?_; conv => whnf
 refine ansR_call b45 (rd1 (nopI _)) (fun w' hw => cloneI_c ks [] skv w' (hk.ext hw.fr) hkl) ?_
 intro k2; conv => whnf
 refine ⟨rfl, ?_⟩; conv => whnf
 refine ⟨rfl, ?_⟩; conv => whnf
 refine ⟨rfl, ?_⟩; conv => whnf
 repeat refine zq ?_
 refine At.ret (At.doneB tab_ok hB _ rfl fun w' hw => ?_)
 exact ⟨[], k2, .slice none 0 0, rfl, rfl, ⟨hw.row (id := 2) rfl, nil_holds, fun b hb => by
  rcases hb with hb | hb
  ·exact (hw.fresh (id := 2) rfl b hb).elim (fun h => by cases h) _root_.id
  ·simp [blkOf] at hb, fun b _ hb => by simp [blkOf] at hb⟩, hw.fr⟩
abbrev EnF (f : FuncId) (args : List Value) (ks : List Int) (er : Int) (Pv : List (Int × Int) → Prop) (w : World) : Prop :=
 Calls Tryz.prog f args.toArray w (fun e w' => ∃ vo k v, Pv vo ∧ e = .returned (.tuple #[vStt k v, vI er]) ∧ Rows2 ks vo w.heap.size w' k v ∧ Ext w w')
theorem box_run {w : World} {b : Nat} {S : List Nat} {p : RunP} (hb : w.heap[b]? = some (.cells (dens (encRun p)).toArray 189 (0, 0))) (hS : b ∉ S) : SlOf runT S w (hs b) [p] := by
 have hrow : (LO.row (hs b) 189 9 ([p].map encRun)).holds w := ⟨⟨rfl, .inr ⟨b, 0, 1, _, rfl, hb, Nat.le_refl 1, by unfold maxLen; omega, by simp [dens], rfl⟩⟩, fun l hl => by rw [List.mem_singleton.1 hl]; rfl⟩
 exact SlOf.of_row (enc := encRun) hrow (fun b' hb' => by simp only [hs, blkOf, List.mem_singleton] at hb'; rw [hb']; exact hS) (by simp)
theorem ent_l {N : List Nd} (hN : NOk N) (mk : Int) : (entB N mk).knows.length ≤ 1000000 ∧ (entB N mk).keys.length ≤ 1000000 ∧ (entB N mk).spans.length ≤ 1000000 := by
 unfold entB
 cases h : alook (hidx N) mk with
 | none => exact ⟨by simp [zeroE], by simp [zeroE], by simp [zeroE]⟩
 | some i =>
  obtain ⟨j, n, rfl, hj, _, e⟩ := hidx_spec h
  have := (hN.nd j n hj).2.2.2.2.1
  show (nodeAt N (j : Int)).e.knows.length ≤ 1000000 ∧ (nodeAt N (j : Int)).e.keys.length ≤ 1000000 ∧ (nodeAt N (j : Int)).e.spans.length ≤ 1000000
  rw [e]
  exact ⟨this.lk, this.ly, this.ls⟩
theorem ent_lk {N : List Nd} (hN : NOk N) (mk : Int) : (entB N mk).knows.length ≤ 1000000 := (ent_l hN mk).1
theorem ent_ly {N : List Nd} (hN : NOk N) (mk : Int) : (entB N mk).keys.length ≤ 1000000 := (ent_l hN mk).2.1
theorem ent_ls {N : List Nd} (hN : NOk N) (mk : Int) : (entB N mk).spans.length ≤ 1000000 := (ent_l hN mk).2.2
theorem errJ_ne (ks : List Int) (a : Int) : errJ ks a ≠ 0 := by unfold errJ; split <;> decide
theorem entry_join (h rb : Nat) (N : List Nd) (hN : NOk N) (mk : Int) (hal : (alook (hidx N) mk).isSome = true) (hk1 : (entB N mk).kind = 1) (ks : List Int) (vo : List (Int × Int)) (kv vv skv : Value) (liars seed : Int) (w : World) (H : HR [] w h rb N)
  (hk : SlOf intT [] w kv ks) (hv : SlOf voT [] w vv vo) (hsk : skv.oneCell' = true) (hkl : ks.length ≤ 1000000) (hvl : vo.length ≤ 100000) :
  EnF 81 [vStt kv vv, vSt skv liars seed, ptr h, vI mk] ks (errJ ks (entB N mk).author) (fun vo' => vo' = vo ++ [(mk, errJ ks (entB N mk).author)]) w := by
 refine calls_e [.s (.agg (encStt kv vv)), .s (.agg (encSt skv liars seed)), .x (ptr h), .i mk] Tryz.func81 rfl rfl (Nat.le_of_ble_eq_true rfl) trivial fun B hB => ?_
 repeat refine zq ?_
 refine zr ?_; conv => whnf
 refine ⟨hk.one, ?_⟩; conv => whnf
 refine ⟨rfl, ?_⟩; conv => whnf
 refine ⟨rfl, ?_⟩; conv => whnf
 refine ⟨hv.one, ?_⟩; conv => whnf
 intro b4; conv => whnf
 refine ⟨hsk, ?_⟩; conv => whnf
 intro b5; conv => whnf
 intro b8; conv => whnf
 repeat refine zq ?_
 refine At.join (fun p' : Nat × Value × Value => { N := Tryz.f81.ntmps, sl := [(2, some (.x ((ptr h)))), (3, some (.i mk)), (8, some (.s (.c (.p 2 b8 0)))), (10, some (.s (.c (.p 5 p'.1 0))))], gl := [], hp := [(5, .box p'.1 189 [.i 0, .o 3 p'.2.1, .x (.slice none 0 0), .x (.slice none 0 0), .o 4 p'.2.2, .x skv, .i liars, .i seed, .x (ptr h)]), (4, .row p'.2.2 193 2 (vo.map encVo)), (3, .row p'.2.1 3 1 (ks.map encI)), (2, .box b8 115 [.i 0, .x (.slice none 0 0), .x (.slice none 0 0), .x (.slice none 0 0), .x (.slice none 0 0)])], S := [], ws := w }) (fun p' : Nat × Value × Value => True) ?_ ?_
 ·repeat refine zq ?_
  refine At.planG tab_ok mixed [(0, LO.box b4 115 (encStt kv vv)), (1, LO.box b5 53 (encSt skv liars seed))] (.take 0 (.take 2 (.take 3 (.br 1 (.take 4 (.br 5 (.take 6 (.done)) (.nob))) (.nob))))) (by kernel_rfl) (by kernel_rfl) ⟨rfl, rfl, trivial⟩ ?_; conv => whnf
  refine ⟨?_, trivial⟩; conv => whnf
  refine rows2_call (ks := ks) (fun vo' => vo' = vo) fSt vStt (fun _ _ _ _ => rfl) fSt_ok b132 (fun w' hw => copySt_c ks vo kv vv w' (hk.ext hw.fr) (hv.ext hw.fr) hkl (by omega)) ?_
  rintro vo' k2 v2 rfl
  conv => whnf
  refine ⟨⟨⟨rfl, rfl, trivial⟩, fun w' hw => hw.fr⟩, ?_⟩; conv => whnf
  repeat (first | (refine ⟨rfl, ?_⟩; conv => whnf) | (refine ⟨hsk, ?_⟩; conv => whnf))
  refine ⟨?_, trivial⟩; conv => whnf
  repeat (first | (refine ⟨rfl, ?_⟩; conv => whnf) | (refine ⟨hsk, ?_⟩; conv => whnf))
  intro b10; conv => whnf
  refine ⟨⟨⟨rfl, rfl, trivial⟩, fun w' hw => hw.fr⟩, ?_⟩; conv => whnf
  refine At.meet fun w' hw => ⟨(b10, k2, v2), trivial, Le.of rfl rfl ⟨rfl, rfl, rfl, rfl, trivial⟩, hw.keep [5, 4, 3, 2] rfl rfl rfl, ⟨⟨_, _, rfl⟩, ⟨_, _, rfl⟩, trivial⟩, ⟨fun c hc => by simp at hc; rcases hc with rfl | rfl | rfl | rfl | rfl | rfl | rfl | rfl | rfl <;> first | exact ⟨_, _, _, rfl⟩ | exact ⟨_, _, rfl⟩ | trivial, (nopVo _).okH, (nopI _).okH, trivial⟩⟩
 rintro ⟨b10, k2, v2⟩ _
 simp only
 repeat refine zq ?_
 refine zr ?_; conv => whnf
 refine entry_call (h := h) (rb := rb) (N := N) (mk := mk) hN (fun w' hw => H.ext hw.fr) ?_
 intro k6 y7 s8; conv => whnf
 intro b11; conv => whnf
 rw [hal]
 repeat refine zq ?_
 refine zr ?_; conv => whnf
 repeat refine zq ?_
 refine At.cond (t := false) rfl (fun hq => by cases hq) (fun _ => At.skip ?_)
 repeat refine zq ?_
 refine zr ?_; conv => whnf
 refine ans_call (r := .b (silentB (entB N mk).kind)) b133 rfl (fun w' _ => silent_c _ w') ?_; conv => whnf
 repeat refine zq ?_
 refine At.cond (t := silentB (entB N mk).kind) rfl (fun hq => by rw [hk1] at hq; cases hq) (fun _ => At.skip ?_)
 repeat refine zq ?_
 refine zr ?_; conv => whnf
 refine ans_call (r := .tup [.c (.i (-1)), .c (.i (errJ ks (entB N mk).author))]) b134 rfl (fun w' hw => fails_join b10 (k2, v2, skv, liars, seed, h) ks (entB N mk) mk k6 y7 s8 w' (box_run (by have := hw.box (id := 5) rfl; exact this) nilS) (slI _ (hw.row (id := 3) rfl) hkl) ⟨slI _ (hw.row (id := 6) rfl) (ent_lk hN mk), slI _ (hw.row (id := 7) rfl) (ent_ly hN mk), slS _ (hw.row (id := 8) rfl) (ent_ls hN mk)⟩ hk1) ?_; conv => whnf
 have hne := errJ_ne ks (entB N mk).author
 generalize her : errJ ks (entB N mk).author = er at hne ⊢
 repeat refine zq ?_
 refine zr ?_; conv => whnf
 repeat refine zq ?_
 refine At.cond rfl (fun _ => ?_) (fun hq => absurd (by simpa using hq) hne)
 repeat refine zq ?_
 refine zr ?_; conv => whnf
 intro v9; conv => whnf
 refine ⟨rfl, ?_⟩; conv => whnf
 refine ⟨⟨rfl, by simp; omega⟩, ?_⟩; conv => whnf
 intro v10; conv => whnf
 repeat refine zq ?_
 refine zr ?_; conv => whnf
 refine ⟨rfl, ?_⟩; conv => whnf
 refine ⟨rfl, ?_⟩; conv => whnf
 repeat refine zq ?_
 refine At.ret (At.doneB tab_ok hB _ rfl fun w' hw => ?_)
 subst her
 exact ⟨vo ++ [(mk, errJ ks (entB N mk).author)], k2, v10, rfl, rfl, by
  have e : (vo ++ [(mk, errJ ks (entB N mk).author)]).map encVo = vo.map encVo ++ [encVo (mk, errJ ks (entB N mk).author)] := by simp
  exact rows2_of hw (i := 3) (j := 4) rfl (by rw [e]; rfl) (by decide) rfl rfl⟩
end Go.Proofs.YtdigebokbhmfaaaGreatDoor.Ap
namespace Go.Vc
theorem Holds.swapK {st st' : St} {w : World} (h : Holds st w) (ids : List Nat) (a b c : List LO) (h1 : (keepIds ids st.hp).map Prod.snd = a ++ (b ++ c)) (h2 : st'.hp.map Prod.snd = b ++ (a ++ c)) (h3 : st'.S = st.S) (h4 : st'.ws = st.ws) : Holds st' w := by
 have hk : Holds { st with hp := keepIds ids st.hp } w := h.keep ids rfl rfl rfl
 refine hk.renP ?_ h3 h4
 show List.Perm (st'.hp.map Prod.snd) ((keepIds ids st.hp).map Prod.snd)
 rw [h2, h1, ← List.append_assoc, ← List.append_assoc]
 exact List.perm_append_comm.append_right c
end Go.Vc
namespace Go.Proofs.YtdigebokbhmfaaaGreatDoor.Ap
open Go.Vc Rt Go.Bs
set_option maxHeartbeats 1000000
theorem sorted_al {N : List Nd} {x : Int} (h : x ∈ sortedB N) : (alook (hidx N) x).isSome = true := by
 rw [alook_isSome, hidx_keys]
 exact (marks_perm N).mem_iff.1 (sorted_mem.1 h)
def voidsL (N : List Nd) (ks : List Int) (l : List Int) : List (Int × Int) := l.map fun m => (m, errJ ks (entB N m).author)
def voidsB (N : List Nd) (ks : List Int) : List (Int × Int) := voidsL N ks (sortedB N)
theorem voidsL_snoc {N : List Nd} {ks l : List Int} {k : Nat} {x : Int} (hx : l[k]? = some x) : voidsL N ks (l.take (k + 1)) = voidsL N ks (l.take k) ++ [(x, errJ ks (entB N x).author)] := by
 unfold voidsL; rw [take_snoc hx, List.map_append]; rfl
theorem all_c (h rb : Nat) (N : List Nd) (hN : NOk N) (hJ : ∀ x ∈ marksB N, (entB N x).kind = 1) (ks : List Int) (skv : Value) (liars seed : Int) (hr : rightS ks liars seed = true) (w : World) (H : HR [] w h rb N) (hk : SlOf intT [] w skv ks) (hkl : ks.length ≤ 1000000) :
  StF 53 [ptr h, vSt skv liars seed] ks (fun vo' => vo' = voidsB N ks) w := by
 have hNl := hN.len
 have hsl := sortedB_len N
 refine calls_e [.x (ptr h), .s (.agg (encSt skv liars seed))] Tryz.func53 rfl rfl (Nat.le_of_ble_eq_true rfl) trivial fun B hB => ?_
 repeat refine zq ?_
 refine zr ?_; conv => whnf
 refine ⟨hk.one, ?_⟩; conv => whnf
 intro b3; conv => whnf
 intro b4; conv => whnf
 repeat refine zq ?_
 refine zr ?_; conv => whnf
 refine ans_call (r := .b (rightS ks liars seed)) b51 rfl (fun w' hw => rightS_c ks liars seed [] skv w' (hk.ext hw.fr) hkl) ?_
 rw [hr]
 conv => whnf
 repeat refine zq ?_
 refine At.cond (t := false) rfl (fun hq => by cases hq) (fun _ => At.skip ?_)
 repeat refine zq ?_
 refine zr ?_; conv => whnf
 refine rows2_call (ks := ks) (fun vo' => vo' = []) fSt vStt (fun _ _ _ _ => rfl) fSt_ok b79 (fun w' hw => begin_c ks skv liars seed w' (hk.ext hw.fr) hkl) ?_
 rintro vo' k2 v2 rfl
 conv => whnf
 intro b5; conv => whnf
 refine ⟨rfl, ?_⟩; conv => whnf
 refine ⟨rfl, ?_⟩; conv => whnf
 repeat refine zq ?_
 refine zr ?_; conv => whnf
 refine ansR_call b80 (rd1p (nopI _) rfl) (fun w' hw => sequence_r h rb N hN (fun x hx => by rw [hJ x hx]; exact ⟨by decide, by decide, by decide⟩) ks skv liars seed w' (H.ext hw.fr) (hk.ext hw.fr) hkl) ?_
 intro vs; conv => whnf
 repeat refine zq ?_
 refine zr ?_; conv => whnf
 repeat refine zq ?_
 refine zr ?_; conv => whnf
 refine ⟨rfl, ?_⟩; conv => whnf
 intro v6; conv => whnf
 refine ⟨rfl, ?_⟩; conv => whnf
 refine ⟨by simp, ?_⟩; conv => whnf
 intro v7; conv => whnf
 refine ⟨rfl, ?_⟩; conv => whnf
 repeat refine zq ?_
 refine At.block ?_
 refine At.loop1 ?_
 repeat refine zq ?_
 refine zr ?_; conv => whnf
 repeat refine zq ?_
 refine At.cond rfl (fun hc => At.skip ?_) (fun hc => At.exit ?_)
 ·repeat refine zq ?_
  refine At.block ?_
  repeat refine zq ?_
  refine zr ?_; conv => whnf
  refine ⟨rfl, ?_⟩; conv => whnf
  refine ⟨by decide, ?_⟩; conv => whnf
  refine ⟨by simp, ?_⟩; conv => whnf
  refine ⟨[.i (sortedB N).length], ⟨rfl, rfl, by decide, by simp⟩, ?_⟩; conv => whnf
  repeat refine zq ?_
  refine At.block ?_
  refine At.loopH (fun p' : Nat × Value × Value => { N := Tryz.f53.ntmps, sl := [(0, some (.x ((ptr h)))), (3, some (.s (.c (.p 0 b3 0)))), (4, some (.s (.c (.p 1 b4 0)))), (5, some (.s (.c (.p 4 b5 0)))), (6, some (.s (.c (.o 5 vs)))), (7, some (.x ((.slice none 0 0)))), (8, some (.i p'.1)), (10, some (.i ((sortedB N).length))), (28, some (.i 1)), (29, some (.i 0))], gl := [], hp := [(3, .row p'.2.2 193 2 ((voidsL N ks ((sortedB N).take p'.1)).map encVo)), (2, .row p'.2.1 3 1 (ks.map encI)), (5, .row vs 3 1 ((sortedB N).map encI)), (4, .box b5 115 [.i 0, .o 2 p'.2.1, .x (.slice none 0 0), .x (.slice none 0 0), .o 3 p'.2.2]), (1, .box b4 115 [.i 0, .x (.slice none 0 0), .x (.slice none 0 0), .x (.slice none 0 0), .x (.slice none 0 0)]), (0, .box b3 53 (encSt skv liars seed))], S := [], ws := w }) (fun p' : Nat × Value × Value => p'.1 ≤ (sortedB N).length) (fun p' : Nat × Value × Value => (sortedB N).length - p'.1)
   (fun w' hw => ⟨(0, k2, v2), Nat.zero_le _, Le.of rfl rfl ⟨rfl, rfl, rfl, rfl, rfl, rfl, rfl, congrArg (Value.int .i64) (by simp), congrArg (Value.int .i64) (by simp), rfl, trivial⟩, hw.swapK [5, 4, 3, 2, 1, 0] [_, _] [_, _] [_, _] rfl rfl rfl rfl, ⟨⟨_, _, rfl⟩, ⟨_, _, rfl⟩, ⟨_, _, rfl⟩, ⟨_, _, _, rfl⟩, trivial⟩, ⟨(nopVo _).okH, (nopI _).okH, (nopI _).okH, fun c hc => by simp at hc; rcases hc with rfl | rfl | rfl | rfl | rfl <;> first | exact ⟨_, _, _, rfl⟩ | exact ⟨_, _, rfl⟩ | trivial, trivial⟩⟩) ?_
  rintro ⟨k, kv, vv⟩ hkk
  simp only at hkk ⊢
  repeat refine zq ?_
  refine zr ?_; conv => whnf
  repeat refine zq ?_
  refine At.cond rfl (fun hc => At.skip ?_) (fun hc => At.exit ?_)
  ·have hlt : k < (sortedB N).length := by have := of_decide_eq_true hc; omega
   obtain ⟨x, hx⟩ : ∃ x, (sortedB N)[k]? = some x := ⟨_, List.getElem?_eq_getElem hlt⟩
   have hlt : k < (sortedB N).length := by have := of_decide_eq_true hc; omega
   have hsn := voidsL_snoc (N := N) (ks := ks) hx
   have hxm := List.mem_of_getElem? hx
   have hvl : (voidsL N ks ((sortedB N).take k)).length ≤ k := by unfold voidsL; rw [List.length_map, List.length_take]; omega
   have hkx := hJ x (sorted_mem.1 hxm)
   have hax := sorted_al hxm
   repeat refine zq ?_
   refine At.block ?_
   repeat refine zq ?_
   refine At.planG tab_ok mixed [(0, .box b3 53 (encSt skv liars seed)), (5, .row vs 3 1 ((sortedB N).map encI))] (.take 1 (.take 2 (.take 3 (.take 4 (.take 5 (.take 6 (.br 0 (.br 7 (.take 8 (.take 9 (.take 10 (.br 11 (.done) (.nob))))) (.nob)) (.nob)))))))) (by kernel_rfl) (by kernel_rfl) ⟨rfl, rfl, trivial⟩ ?_; conv => whnf
   refine ⟨rfl, ?_⟩; conv => whnf
   refine ⟨by omega, ?_⟩; conv => whnf
   refine ⟨by (try simp only [List.length_map]); omega, ?_⟩; conv => whnf
   refine ⟨encI x, ⟨rfl, rfl, by omega, by rw [Int.toNat_natCast, List.getElem?_map, hx]; rfl⟩, ?_⟩; conv => whnf
   refine ⟨?_, trivial⟩; conv => whnf
   refine ⟨⟨⟨rfl, rfl, trivial⟩, fun w' hw => hw.fr⟩, ?_⟩; conv => whnf
   refine ⟨?_, trivial⟩; conv => whnf
   refine rows2_call (ks := ks) (fun vo' => vo' = voidsL N ks ((sortedB N).take k) ++ [(x, errJ ks (entB N x).author)]) (fSe (errJ ks (entB N x).author)) (fun k v => .tuple #[vStt k v, vI (errJ ks (entB N x).author)]) (fun _ _ _ _ => rfl) (fSe_ok _) b81 (fun w' hw => entry_join h rb N hN x hax hkx ks (voidsL N ks ((sortedB N).take k)) kv vv skv liars seed w' (H.ext hw.fr) (slI _ (hw.row (id := 2) rfl) hkl) (slVo _ (hw.row (id := 3) rfl) (by omega)) hk.one hkl (by omega)) ?_
   rintro vo' k2 v2 rfl
   conv => whnf
   refine ⟨⟨⟨rfl, rfl, trivial⟩, fun w' hw => hw.fr⟩, ?_⟩; conv => whnf
   refine ⟨?_, trivial⟩; conv => whnf
   refine ⟨rfl, ?_⟩; conv => whnf
   refine ⟨rfl, ?_⟩; conv => whnf
   refine ⟨⟨⟨rfl, rfl, trivial⟩, fun w' hw => hw.fr⟩, ?_⟩; conv => whnf
   repeat refine zq ?_
   refine zr ?_; conv => whnf
   refine ⟨⟨by omega, by omega⟩, ?_⟩; conv => whnf
   refine At.nextH fun w' hw => ⟨(k + 1, k2, v2), by simp only; omega, by simp only; omega, Le.of rfl rfl ⟨rfl, rfl, rfl, rfl, rfl, rfl, rfl, rfl, rfl, rfl, trivial⟩, hw.boxK [7, 6, 5, 4, 1, 0] [_, _, _] [_, _] rfl (by simp only [hsn]; rfl) rfl rfl (by exact rfl), ⟨⟨_, _, rfl⟩, ⟨_, _, rfl⟩, ⟨_, _, rfl⟩, ⟨_, _, _, rfl⟩, trivial⟩, ⟨(nopVo _).okH, (nopI _).okH, (nopI _).okH, fun c hc => by simp at hc; rcases hc with rfl | rfl | rfl | rfl | rfl <;> first | exact ⟨_, _, _, rfl⟩ | exact ⟨_, _, rfl⟩ | trivial, trivial⟩⟩
  ·have hge : k = (sortedB N).length := by have := of_decide_eq_false hc; omega
   subst hge
   rw [List.take_length]
   repeat refine zq ?_
   refine zr ?_; conv => whnf
   refine ⟨nilSl, ?_⟩; conv => whnf
   repeat refine zq ?_
   refine At.cond rfl (fun hq => by simp [slen] at hq) (fun _ => At.skip ?_)
   repeat refine zq ?_
   refine zr ?_; conv => whnf
   refine ⟨⟨by decide, by decide⟩, ?_⟩; conv => whnf
   repeat refine zq ?_
   refine zr ?_; conv => whnf
   repeat refine zq ?_
   refine At.cond rfl (fun hc => At.skip ?_) (fun hc => At.exit ?_)
   ·exfalso; simp at hc
   repeat refine zq ?_
   refine zr ?_; conv => whnf
   refine ⟨rfl, ?_⟩; conv => whnf
   refine ⟨rfl, ?_⟩; conv => whnf
   repeat refine zq ?_
   refine At.ret (At.doneB tab_ok hB _ rfl fun w' hw => ⟨voidsB N ks, kv, vv, rfl, rfl, rows2_of hw (i := 2) (j := 3) rfl rfl (by decide) rfl rfl⟩)
 ·exfalso
  have := of_decide_eq_false hc
  simp at this
def missK (key : Int) (met : List Int) (x : Int) : Bool := !decide (x = key) && !hasI met x
def missB (ks : List Int) (key : Int) (met : List Int) : List Int := ks.filter (missK key met)
theorem missB_snoc {ks met : List Int} {key : Int} {k : Nat} {x : Int} (hx : ks[k]? = some x) : missB (ks.take (k + 1)) key met = missB (ks.take k) key met ++ if missK key met x then [x] else [] := by
 unfold missB; rw [take_snoc hx, List.filter_append, List.filter_cons, List.filter_nil]
theorem missB_len {ks met : List Int} {key : Int} {k : Nat} : (missB (ks.take k) key met).length ≤ k := by
 unfold missB; exact Nat.le_trans (List.length_filter_le _ _) (by rw [List.length_take]; omega)
theorem missing_c (h rb : Nat) (N : List Nd) (hN : NOk N) (hJ : ∀ x ∈ marksB N, (entB N x).kind = 1) (ks : List Int) (skv : Value) (liars seed : Int) (hr : rightS ks liars seed = true) (key : Int) (met : List Int) (mv : Value) (w : World) (H : HR [] w h rb N) (hk : SlOf intT [] w skv ks) (hkl : ks.length ≤ 1000000) (hm : SlOf intT [] w mv met) :
  AnsR Tryz.prog 30 [ptr h, vSt skv liars seed, vI key, mv] [.row 3 1 ((missB ks key met).map encI)] w := by
 refine calls_e [.x (ptr h), .s (.agg (encSt skv liars seed)), .i key, .x mv] Tryz.func30 rfl rfl (Nat.le_of_ble_eq_true rfl) trivial fun B hB => ?_
 repeat refine zq ?_
 refine zr ?_; conv => whnf
 refine ⟨hk.one, ?_⟩; conv => whnf
 intro b5; conv => whnf
 repeat refine zq ?_
 refine zr ?_; conv => whnf
 repeat refine zq ?_
 refine zr ?_; conv => whnf
 refine rows2_call (ks := ks) (fun vo' => vo' = voidsB N ks) fSt vStt (fun _ _ _ _ => rfl) fSt_ok b53 (fun w' hw => all_c h rb N hN hJ ks skv liars seed hr w' (H.ext hw.fr) (hk.ext hw.fr) hkl) ?_
 rintro vo' k2 v2 rfl
 conv => whnf
 refine ⟨rfl, ?_⟩; conv => whnf
 repeat refine zq ?_
 refine At.block ?_
 refine At.loopH (fun p' : Nat × Value => { N := Tryz.f30.ntmps, sl := [(2, some (.i key)), (3, some (.x mv)), (9, some (.s (.c (.o 3 p'.2)))), (15, some (.s (.c (.o 1 k2)))), (16, some (.i ks.length)), (17, some (.i p'.1))], gl := [], hp := [(3, .row p'.2 3 1 ((missB (ks.take p'.1) key met).map encI)), (1, .row k2 3 1 (ks.map encI))], S := [], ws := w }) (fun p' : Nat × Value => p'.1 ≤ ks.length) (fun p' : Nat × Value => ks.length - p'.1)
  (fun w' hw => ⟨(0, .slice none 0 0), Nat.zero_le _, Le.of rfl rfl ⟨rfl, rfl, rfl, rfl, congrArg (Value.int .i64) (by simp), rfl, trivial⟩, Holds.nilK hw [1] rfl rfl rfl, ⟨⟨_, _, _, rfl⟩, ⟨_, _, _, rfl⟩, trivial⟩, ⟨(nopI _).okH, (nopI _).okH, trivial⟩⟩) ?_
 rintro ⟨k, vo⟩ hkk
 simp only at hkk ⊢
 repeat refine zq ?_
 refine zr ?_; conv => whnf
 repeat refine zq ?_
 refine At.cond rfl (fun hc => At.skip ?_) (fun hc => At.exit ?_)
 ·have hlt : k < ks.length := by have := of_decide_eq_true hc; omega
  obtain ⟨x, hx⟩ : ∃ x, ks[k]? = some x := ⟨_, List.getElem?_eq_getElem hlt⟩
  have hlt : k < ks.length := by have := of_decide_eq_true hc; omega
  have hsn := missB_snoc (met := met) (key := key) hx
  have hml := missB_len (ks := ks) (met := met) (key := key) (k := k)
  repeat refine zq ?_
  refine At.block ?_
  repeat refine zq ?_
  refine zr ?_; conv => whnf
  refine ⟨rfl, ?_⟩; conv => whnf
  refine ⟨by omega, ?_⟩; conv => whnf
  refine ⟨by (try simp only [List.length_map]); omega, ?_⟩; conv => whnf
  refine ⟨encI x, ⟨rfl, rfl, by omega, by rw [Int.toNat_natCast, List.getElem?_map, hx]; rfl⟩, ?_⟩; conv => whnf
  repeat refine zq ?_
  refine zr ?_; conv => whnf
  refine ⟨.b (hasI met x), gimp_of (ans_quiet b52 (fun w' hw => contains_c met x [] mv w' (hm.ext hw.fr))), ?_⟩; conv => whnf
  repeat refine zq ?_
  refine At.cond rfl (fun hq => ?_) (fun hq => At.skip ?_)
  ·have hB' : missK key met x = true := by unfold missK; simpa only [bor, band] using hq
   rw [hB', if_pos rfl] at hsn
   repeat refine zq ?_
   refine zr ?_; conv => whnf
   intro v6; conv => whnf
   refine ⟨rfl, ?_⟩; conv => whnf
   refine ⟨⟨rfl, by simp; omega⟩, ?_⟩; conv => whnf
   intro v7; conv => whnf
   repeat refine zq ?_
   refine zr ?_; conv => whnf
   refine ⟨⟨by omega, by omega⟩, ?_⟩; conv => whnf
   refine At.nextH fun w' hw => ⟨(k + 1, v7), by simp only; omega, by simp only; omega, Le.of rfl rfl ⟨rfl, rfl, rfl, rfl, rfl, rfl, trivial⟩, hw.keep [3, 1] ?_ rfl rfl, ⟨⟨_, _, _, rfl⟩, ⟨_, _, _, rfl⟩, trivial⟩, ⟨(nopI _).okH, (nopI _).okH, trivial⟩⟩
   show [(3, LO.row v7 3 1 _), (1, LO.row k2 3 1 _)] = [(3, LO.row v7 3 1 _), (1, LO.row k2 3 1 _)]
   rw [hsn, List.map_append]
   rfl
  ·have hB' : missK key met x = false := by unfold missK; simpa only [bor, band] using hq
   rw [hB', if_neg (by decide), List.append_nil] at hsn
   repeat refine zq ?_
   refine zr ?_; conv => whnf
   refine ⟨⟨by omega, by omega⟩, ?_⟩; conv => whnf
   refine At.nextH fun w' hw => ⟨(k + 1, vo), by simp only; omega, by simp only; omega, Le.of rfl rfl ⟨rfl, rfl, rfl, rfl, rfl, rfl, trivial⟩, hw.keep [3, 1] (by simp only [hsn]; rfl) rfl rfl, ⟨⟨_, _, _, rfl⟩, ⟨_, _, _, rfl⟩, trivial⟩, ⟨(nopI _).okH, (nopI _).okH, trivial⟩⟩
 ·have hge : k = ks.length := by have := of_decide_eq_false hc; omega
  subst hge
  rw [List.take_length]
  repeat refine zq ?_
  refine zr ?_; conv => whnf
  repeat refine zq ?_
  refine At.ret (At.doneB tab_ok hB _ rfl fun w' hw => ansR_row (id := 3) hw rfl rfl rfl)
theorem safe_c (h rb : Nat) (N : List Nd) (hN : NOk N) (hJ : ∀ x ∈ marksB N, (entB N x).kind = 1) (ks : List Int) (skv : Value) (liars seed : Int) (hr : rightS ks liars seed = true) (key : Int) (met : List Int) (mv : Value) (w : World) (H : HR [] w h rb N) (hk : SlOf intT [] w skv ks) (hkl : ks.length ≤ 1000000) (hm : SlOf intT [] w mv met) :
  Ans Tryz.prog 31 [ptr h, vSt skv liars seed, vI key, mv] (.b (decide (((missB ks key met).length : Int) = 0))) w := by
 refine calls_e [.x (ptr h), .s (.agg (encSt skv liars seed)), .i key, .x mv] Tryz.func31 rfl rfl (Nat.le_of_ble_eq_true rfl) trivial fun B hB => ?_
 repeat refine zq ?_
 refine zr ?_; conv => whnf
 refine ⟨hk.one, ?_⟩; conv => whnf
 intro b5; conv => whnf
 repeat refine zq ?_
 refine At.regionG tab_ok ?_; conv => whnf
 refine ans_call (r := .b (rightS ks liars seed)) b51 rfl (fun w' hw => rightS_c ks liars seed [] skv w' (hk.ext hw.fr) hkl) ?_
 rw [hr]
 conv => whnf
 refine ansR_call b30 (rd1 (nopI _)) (fun w' hw => missing_c h rb N hN hJ ks skv liars seed hr key met mv w' (H.ext hw.fr) (hk.ext hw.fr) hkl (hm.ext hw.fr)) ?_
 intro vm; conv => whnf
 refine ⟨rfl, ?_⟩; conv => whnf
 repeat refine zq ?_
 refine At.ret (At.doneB tab_ok hB _ rfl fun w' hw => ⟨?_, hw.fr⟩)
 simp only [List.length_map, cond_true]
def mayB (ks : List Int) (key : Int) (met : List Int) : Int := if hasI ks key then (if (missB ks key met).length = 0 then 0 else 19) else 18
theorem may_c (h rb : Nat) (N : List Nd) (hN : NOk N) (hJ : ∀ x ∈ marksB N, (entB N x).kind = 1) (hno : NoFork N) (ks : List Int) (skv : Value) (liars seed : Int) (hr : rightS ks liars seed = true) (key : Int) (met : List Int) (mv : Value) (w : World) (H : HR [] w h rb N) (hk : SlOf intT [] w skv ks) (hkl : ks.length ≤ 1000000) (hm : SlOf intT [] w mv met) :
  Ans Tryz.prog 24 [ptr h, vSt skv liars seed, vI key, mv] (.i (mayB ks key met)) w := by
 refine calls_e [.x (ptr h), .s (.agg (encSt skv liars seed)), .i key, .x mv] Tryz.func24 rfl rfl (Nat.le_of_ble_eq_true rfl) trivial fun B hB => ?_
 repeat refine zq ?_
 refine zr ?_; conv => whnf
 refine ⟨hk.one, ?_⟩; conv => whnf
 intro b5; conv => whnf
 repeat refine zq ?_
 refine At.block ?_
 repeat refine zq ?_
 refine zr ?_; conv => whnf
 refine ans_call (r := .b (rightS ks liars seed)) b51 rfl (fun w' hw => rightS_c ks liars seed [] skv w' (hk.ext hw.fr) hkl) ?_
 rw [hr]
 conv => whnf
 repeat refine zq ?_
 refine At.cond (t := false) rfl (fun hq => by cases hq) (fun _ => ?_)
 repeat refine zq ?_
 refine zr ?_; conv => whnf
 refine rows2_call (ks := ks) (fun vo' => vo' = voidsB N ks) fSt vStt (fun _ _ _ _ => rfl) fSt_ok b53 (fun w' hw => all_c h rb N hN hJ ks skv liars seed hr w' (H.ext hw.fr) (hk.ext hw.fr) hkl) ?_
 rintro vo' k2 v2 rfl
 conv => whnf
 refine ans_call (r := .b (hasI ks key)) b52 rfl (fun w' hw => contains_c ks key [] k2 w' (slI _ (hw.row (id := 1) rfl) hkl)) ?_; conv => whnf
 repeat refine zq ?_
 refine At.cond rfl (fun hq => ?_) (fun hq => ?_)
 ·have hh : hasI ks key = false := by simpa using hq
  repeat refine zq ?_
  refine zr ?_; conv => whnf
  repeat refine zq ?_
  refine At.ret (At.doneB tab_ok hB _ rfl fun w' hw => ⟨?_, hw.fr⟩)
  unfold mayB; rw [hh]; rfl
 have hh : hasI ks key = true := by simpa using hq
 repeat refine zq ?_
 refine zr ?_; conv => whnf
 refine ans_call (r := .x (.slice none 0 0)) b23 rfl (fun w' hw => guilty_none h rb N hN hno w' (H.ext hw.fr)) ?_; conv => whnf
 refine ans_call (r := .b (hasI [] key)) b52 rfl (fun w' hw => contains_c [] key [] (.slice none 0 0) w' nilI_sl) ?_
 rw [show hasI [] key = false from rfl]
 conv => whnf
 repeat refine zq ?_
 refine At.cond (t := false) rfl (fun hq => by cases hq) (fun _ => ?_)
 repeat refine zq ?_
 refine zr ?_; conv => whnf
 refine ans_call (r := .b (decide (((missB ks key met).length : Int) = 0))) b31 rfl (fun w' hw => safe_c h rb N hN hJ ks skv liars seed hr key met mv w' (H.ext hw.fr) (hk.ext hw.fr) hkl (hm.ext hw.fr)) ?_; conv => whnf
 repeat refine zq ?_
 refine At.cond rfl (fun hq => ?_) (fun hq => At.skip ?_)
 ·have hl : ¬ (missB ks key met).length = 0 := by have := hq; simp only [Bool.not_eq_true', decide_eq_false_iff_not] at this; omega
  repeat refine zq ?_
  refine zr ?_; conv => whnf
  repeat refine zq ?_
  refine At.ret (At.doneB tab_ok hB _ rfl fun w' hw => ⟨?_, hw.fr⟩)
  unfold mayB; rw [hh, if_pos rfl, if_neg hl]
 ·have hl : (missB ks key met).length = 0 := by have := hq; simp only [Bool.not_eq_false', decide_eq_true_eq] at this; omega
  repeat refine zq ?_
  refine zr ?_; conv => whnf
  repeat refine zq ?_
  refine At.ret (At.doneB tab_ok hB _ rfl fun w' hw => ⟨?_, hw.fr⟩)
  unfold mayB; rw [hh, if_pos rfl, if_pos hl]
end Go.Proofs.YtdigebokbhmfaaaGreatDoor.Ap
namespace Go.Bs
open Lib Rt
theorem dec_digit : ∀ (u : Nat) (c : UInt8), c ∈ decDigits u → 48 ≤ c.toNat ∧ c.toNat ≤ 57 := by
 have hd : ∀ v, v < 10 → (UInt8.ofNat (48 + v)).toNat = 48 + v := fun v hv => UInt8.toNat_ofNat_of_lt' (by show 48 + v < 256; omega)
 intro u
 induction u using Nat.strongRecOn with
 | ind u ih =>
  intro c hc
  rw [decDigits] at hc
  split at hc
  ·rename_i h
   rw [List.mem_singleton.1 hc, hd u h]; omega
  ·rename_i h
   rcases List.mem_append.1 hc with hc | hc
   ·exact ih (u / 10) (by omega) c hc
   ·rw [List.mem_singleton.1 hc, hd (u % 10) (by omega)]; omega
theorem parse_app : ∀ (l : List UInt8) (acc v : Nat) (r : List UInt8), parseUint10 acc l = .ok v → parseUint10 acc (l ++ r) = parseUint10 v r
 | [], acc, v, r, h => by
  simp only [parseUint10, NumEnd.ok.injEq] at h
  subst h; rfl
 | c :: l, acc, v, r, h => by
  rw [parseUint10] at h
  conv => lhs; rw [List.cons_append, parseUint10]
  split at h
  ·rename_i h1
   rw [if_pos h1]
   split at h
   ·cases h
   ·rename_i h2
    rw [if_neg h2]
    split at h
    ·cases h
    ·rename_i h3
     rw [if_neg h3]
     exact parse_app l _ v r h
  ·cases h
theorem parse_dec : ∀ (u : Nat), u < 18446744073709551616 → parseUint10 0 (decDigits u) = .ok u := by
 have hd : ∀ v, v < 10 → (UInt8.ofNat (48 + v)).toNat = 48 + v := fun v hv => UInt8.toNat_ofNat_of_lt' (by show 48 + v < 256; omega)
 have one : ∀ acc v, v < 10 → acc * 10 + v < 18446744073709551616 → parseUint10 acc [UInt8.ofNat (48 + v)] = .ok (acc * 10 + v) := by
  intro acc v hv ha
  unfold parseUint10
  rw [hd v hv, if_pos (by omega), if_neg (by omega), if_neg (by omega)]
  unfold parseUint10
  congr 1; omega
 intro u
 induction u using Nat.strongRecOn with
 | ind u ih =>
  intro hu
  rw [decDigits]
  split
  ·rename_i h
   have := one 0 u h (by omega)
   simpa using this
  ·rename_i h
   rw [parse_app _ _ _ _ (ih (u / 10) (by omega) (by omega)), one (u / 10) (u % 10) (by omega) (by omega)]
   congr 1; omega
theorem dec_ne (u : Nat) : decDigits u ≠ [] := by
 rw [decDigits]
 split
 ·simp
 ·simp
theorem dec_len : ∀ (k u : Nat), u < 10 ^ (k + 1) → (decDigits u).length ≤ k + 1
 | 0, u, h => by
  rw [decDigits, dif_pos (by omega)]; simp
 | k + 1, u, h => by
  rw [decDigits]
  split
  ·simp
  ·have := dec_len k (u / 10) (by rw [Nat.pow_succ] at h; omega)
   simp only [List.length_append, List.length_cons, List.length_nil]; omega
def okN (n : Int) : Prop := -1 ≤ n ∧ n ≤ 1000000
theorem itoa_rt {n : Int} (h : okN n) : atoiAll (itoa n) = .ok n ∧ (itoa n).length ≤ 9 ∧ (∀ c ∈ itoa n, (48 ≤ c.toNat ∧ c.toNat ≤ 57) ∨ c.toNat = 45) := by
 obtain ⟨h1, h2⟩ := h
 unfold itoa
 split
 ·rename_i hn
  have e : n.natAbs = 1 := by omega
  rw [e]
  refine ⟨?_, ?_, ?_⟩
  ·rw [atoiAll_minus, parseMag, if_neg (dec_ne 1), parse_dec 1 (by decide)]
   have : n = -1 := by omega
   rw [this]; rfl
  ·have := dec_len 0 1 (by decide)
   simp only [List.length_cons]; omega
  ·intro c hc
   rcases List.mem_cons.1 hc with rfl | hc
   ·exact .inr rfl
   ·exact .inl (dec_digit 1 c hc)
 ·rename_i hn
  have hm := dec_digit n.toNat
  have hl := dec_len 7 n.toNat (by omega)
  have hp := parse_dec n.toNat (by omega)
  have hne := dec_ne n.toNat
  generalize decDigits n.toNat = l at hm hl hp hne
  refine ⟨?_, by omega, fun c hc => .inl (hm c hc)⟩
  cases l with
  | nil => exact absurd rfl hne
  | cons c r =>
   have := hm c (List.mem_cons_self ..)
   rw [atoiAll_plain c r (by omega) (by omega), parseMag, if_neg hne, hp]
   unfold signless
   simp only
   rw [if_neg (by omega)]
   congr 1; omega
theorem index_at : ∀ (l : List UInt8) (c : UInt8) (r : List UInt8), c ∉ l → indexByte (l ++ c :: r) c = l.length
 | [], c, r, _ => by simp [indexByte]
 | b :: l, c, r, h => by
  have hb : ¬ (b == c) = true := fun e => h (by rw [eq_of_beq e]; exact List.mem_cons_self ..)
  have ih := index_at l c r fun hm => h (List.mem_cons_of_mem _ hm)
  rw [List.cons_append]
  unfold indexByte
  rw [if_neg hb, ih, if_neg (by simp)]
  simp
theorem numberV_at {n least : Int} {c : UInt8} (rest : B) (h : okN n) (hl : least ≤ n) (hc : 58 ≤ c.toNat) : numberV c least (itoa n ++ c :: rest) = some (n, rest) := by
 obtain ⟨h1, h2, h3⟩ := itoa_rt h
 generalize hg : itoa n = l at h1 h2 h3
 have hcl : c ∉ l := fun hm => by have := h3 c hm; omega
 have hh : headOf (l ++ c :: rest) = l ++ c :: rest.take (20 - l.length) := by
  unfold headOf
  rw [List.take_append, List.take_of_length_le (by omega), show 21 - l.length = (20 - l.length) + 1 by omega, List.take_succ_cons]
 unfold numberV
 simp only
 rw [hh, index_at l c _ hcl, if_neg (by omega)]
 have ht : (l ++ c :: rest.take (20 - l.length)).take ((l.length : Int)).toNat = l := by
  rw [Int.toNat_natCast, List.take_left']; rfl
 rw [ht, h1]
 simp only
 rw [hg, if_neg (by rintro (h | h); exact h rfl; omega)]
 have hd : (l ++ c :: rest).drop ((l.length : Int) + 1).toNat = rest := by
  rw [show ((l.length : Int) + 1).toNat = l.length + 1 by omega, List.drop_append, List.drop_of_length_le (by omega), show l.length + 1 - l.length = 1 by omega]
  rfl
 rw [hd]
theorem numberR_at {n least : Int} {c : UInt8} (rest : B) (b : Bool) (h : okN n) (hl : least ≤ n) (hc : 58 ≤ c.toNat) : numberR c least ⟨itoa n ++ c :: rest, b⟩ = (n, ⟨rest, b⟩) := by
 unfold numberR
 rw [numberV_at rest h hl hc]
theorem intR_at {n : Int} (rest : B) (b : Bool) (h : okN n) : intR ⟨intS n ++ rest, b⟩ = (n, ⟨rest, b⟩) := by
 unfold intR intS
 rw [List.append_assoc]
 exact numberR_at rest b h (by have := h.1; omega) (by decide)
theorem numR_at {n : Int} (rest : B) (b : Bool) (h : okN n) (h0 : 0 ≤ n) : numR ⟨numS n ++ rest, b⟩ = (n, ⟨rest, b⟩) := by
 unfold numR numS
 rw [if_neg (by omega)]
 unfold intS
 rw [List.append_assoc]
 exact numberR_at rest b h h0 (by decide)
theorem items_at : ∀ (l : List Int) (out : List Int) (rest : B), (∀ x ∈ l, okN x) → itemsL l.length out ⟨(l.map intS).flatten ++ rest, false⟩ = (out ++ l, ⟨rest, false⟩)
 | [], out, rest, _ => by simp [itemsL]
 | x :: l, out, rest, h => by
  rw [List.length_cons]
  unfold itemsL
  simp only [Bool.false_eq_true, if_false]
  rw [List.map_cons, List.flatten_cons, List.append_assoc, intR_at _ _ (h x (List.mem_cons_self ..))]
  simp only
  rw [items_at l (out ++ [x]) rest fun y hy => h y (List.mem_cons_of_mem _ hy)]
  simp
theorem nums_at {l : List Int} (rest : B) (h : ∀ x ∈ l, okN x) (hl : l.length ≤ 1000000) : numsR ⟨numsS l ++ rest, false⟩ = (l, ⟨rest, false⟩) := by
 unfold numsR numsS
 have e : itoa (l.length : Int) ++ [91] ++ (l.map intS).flatten ++ [93] ++ rest = itoa (l.length : Int) ++ 91 :: ((l.map intS).flatten ++ (93 :: rest)) := by simp
 rw [e, numberR_at _ _ ⟨by omega, by omega⟩ (by omega) (by decide)]
 simp only [Int.toNat_natCast]
 rw [items_at l [] _ h]
 simp [closeR, hasPrefix, trimPrefix]
theorem text_at (rest : B) : textR ⟨textS [] ++ rest, false⟩ = ([], ⟨rest, false⟩) := by
 unfold textR textS
 have e : itoa (([] : B).length : Int) ++ [58] ++ [] ++ [44] ++ rest = itoa 0 ++ 58 :: (44 :: rest) := by simp
 rw [e, numberR_at _ _ ⟨by decide, by decide⟩ (by decide) (by decide)]
 simp [closeR, hasPrefix, trimPrefix]
 intro hq
 omega
def noteE (a q d : Int) (ks : List Int) : En := ⟨a, q, d, ks, 1, 0, 0, 0, 0, -1, [], [], []⟩
structure NoteOk (a q d : Int) (ks : List Int) : Prop where
 a : 0 ≤ a ∧ a < 200
 q : 0 ≤ q ∧ q < 1000
 d : 0 ≤ d ∧ d ≤ 1000
 k : ∀ x ∈ ks, 0 ≤ x ∧ x ≤ 1000
 l : ks.length ≤ 40
 asc : ks.Pairwise (· < ·)
theorem asc_of {l : List Int} (h : l.Pairwise (· < ·)) : ascB l = true := by
 refine ascB_true fun j hj => ?_
 unfold ascAt
 rw [List.getElem?_eq_getElem (l := l) (i := j - 1) (by omega), List.getElem?_eq_getElem hj]
 simp only
 rcases Nat.eq_zero_or_pos j with h0 | h0
 ·subst h0; rfl
 ·have := List.pairwise_iff_getElem.1 h (j - 1) j (by omega) hj (by omega)
  rw [decide_eq_true this, Bool.or_true]
theorem mark_ok {x : Int} (h : 0 ≤ x ∧ x ≤ 1000) : isMark x = true := by
 unfold isMark
 simp only [Bool.and_eq_true, decide_eq_true_eq]
 omega
theorem note_right {a q d : Int} {ks : List Int} (h : NoteOk a q d ks) : rightB (noteE a q d ks) = true := by
 have hA : badA (noteE a q d ks) = false := by
  have h1 := h.a; have h2 := h.q; have h3 := h.d
  have hp : plainB (noteE a q d ks) = true := by
   refine plainB_true fun j hj => ?_
   unfold okC empties noteE
   rcases j with _ | _ | _ | _ | _ | _ | _ | _ | j <;> first | rfl | omega
  have hk : isKeyB a = true := by unfold isKeyB; simp only [Bool.and_eq_true, decide_eq_true_eq]; omega
  have hday : isDayB d = true := by unfold isDayB; simp only [Bool.and_eq_true, decide_eq_true_eq]; omega
  unfold badA
  rw [hp]
  show ((((((!isKeyB a) || decide (q < 0)) || decide (1048576 ≤ q)) || !isDayB d) || decide ((1 : Int) < 0)) || decide (21 ≤ (1 : Int)) || !true) = false
  rw [hk, hday, decide_eq_false (show ¬ q < 0 by omega), decide_eq_false (show ¬ 1048576 ≤ q by omega)]
  rfl
 have hK : badK (noteE a q d ks) = false := by
  have hl := h.l
  unfold badK
  show ((decide (40 < ks.length) || !ascB ks) || (decide (0 < ks.length) && ((!isMark (ks.getD 0 0)) || !isMark (ks.getD (ks.length - 1) 0)))) = false
  rw [asc_of h.asc, decide_eq_false (by omega)]
  rcases Nat.eq_zero_or_pos ks.length with h0 | h0
  ·rw [decide_eq_false (by omega)]; rfl
  ·have hm : ∀ i, i < ks.length → isMark (ks.getD i 0) = true := fun i hi => by
    rw [List.getD_eq_getElem?_getD, List.getElem?_eq_getElem hi, Option.getD_some]
    exact mark_ok (h.k _ (List.getElem_mem hi))
   rw [hm 0 h0, hm (ks.length - 1) (by omega)]
   simp
 have hS : badS (noteE a q d ks) = false := rfl
 have hM : badM (noteE a q d ks) = false := rfl
 have hN : numbersB (noteE a q d ks) = true := rfl
 unfold rightB
 rw [hA, hK, hS, hM, hN]
 rfl
theorem note_raw {a q d : Int} {ks : List Int} (h : NoteOk a q d ks) : rawE (entryS (noteE a q d ks)) = (noteE a q d ks, ⟨[], false⟩) := by
 have h1 := h.a; have h2 := h.q; have h3 := h.d; have h4 := h.l
 have hk : ∀ x ∈ ks, okN x := fun x hx => by have := h.k x hx; exact ⟨by omega, by omega⟩
 have e : entryS (noteE a q d ks) = numS a ++ (numS q ++ (numS d ++ (numsS ks ++ (numS 1 ++ (numS 0 ++ (numS 0 ++ (intS 0 ++ (intS 0 ++ (intS (-1) ++ (numsS [] ++ (numS 0 ++ (textS [] ++ [])))))))))))) := by
  unfold entryS
  rw [if_pos (note_right h)]
  unfold headS midS spansS noteE
  simp only [List.map_nil, List.flatten_nil, List.length_nil, List.append_nil, List.append_assoc, List.nil_append]
  rfl
 have z : okN 0 := ⟨by decide, by decide⟩
 rw [e]
 unfold rawE
 rw [numR_at _ _ ⟨by omega, by omega⟩ h1.1]
 simp only
 rw [numR_at _ _ ⟨by omega, by omega⟩ h2.1]
 simp only
 rw [numR_at _ _ ⟨by omega, by omega⟩ h3.1]
 simp only
 rw [nums_at _ hk (by omega)]
 simp only
 rw [numR_at (n := 1) _ _ ⟨by decide, by decide⟩ (by decide)]
 simp only
 rw [numR_at (n := 0) _ _ z (by decide)]
 simp only
 rw [numR_at (n := 0) _ _ z (by decide)]
 simp only
 rw [intR_at (n := 0) _ _ z]
 simp only
 rw [intR_at (n := 0) _ _ z]
 simp only
 rw [intR_at (n := -1) _ _ ⟨by decide, by decide⟩]
 simp only
 rw [nums_at (l := []) _ (fun x hx => by cases hx) (by decide)]
 simp only
 rw [numR_at (n := 0) _ _ z (by decide)]
 simp only [Int.toNat_zero, readL]
 rw [text_at []]
 rfl
theorem note_read {a q d : Int} {ks : List Int} (h : NoteOk a q d ks) : readE (entryS (noteE a q d ks)) = (noteE a q d ks, 0) := by
 have hb : badE (entryS (noteE a q d ks)) = false := by
  unfold badE
  rw [note_raw h]
  simp only
  rw [note_right h]
  simp [doneR]
 unfold readE
 rw [hb, note_raw h]
 rfl
end Go.Bs
namespace Go.Proofs.YtdigebokbhmfaaaGreatDoor.Ap
open Go.Vc Rt Go.Bs
theorem sign_new {R : List SK} {k : Int} {t : List UInt8} (hk : isKeyB k = true) (hn : (k, t) ∉ R) : signL R k t = R ++ [(k, t)] ∧ sgT R k t = (k, t, (R.length : Int)) ∧ validR (R ++ [(k, t)]) k t R.length = true := by
 have h0 : alook (idxL R) (k, t) = none := alook_none fun p hp e => hn (by rw [← e]; exact idxL_mem hp)
 refine ⟨?_, ?_, ?_⟩
 ·unfold signL; rw [if_pos ⟨hk, h0⟩]
 ·unfold sgT signM; rw [if_pos hk, if_pos hk, h0]; rfl
 ·rw [validR_iff, idxL_snoc, alook_append, h0, alook_cons, if_pos rfl]; rfl
theorem note_R {a q d : Int} {ks : List Int} (h : NoteOk a q d ks) : EnR (noteE a q d ks) := by
 have h1 := h.a; have h2 := h.q; have h3 := h.d; have h4 := h.l
 have c : ∀ {z : Int}, z = 0 ∨ z = 1 ∨ z = -1 → iR z := fun {z} hz => ⟨by omega, by omega⟩
 exact ⟨⟨by show _ ≤ a; omega, by show a ≤ _; omega⟩, ⟨by show _ ≤ q; omega, by show q ≤ _; omega⟩, ⟨by show _ ≤ d; omega, by show d ≤ _; omega⟩, c (.inr (.inl rfl)), c (.inl rfl), c (.inl rfl), c (.inl rfl), c (.inl rfl), c (.inr (.inr rfl)),
  fun x hx => by have := h.k x hx; exact ⟨by omega, by omega⟩, fun x hx => (by cases hx), fun x hx => (by cases hx), by show ks.length ≤ _; omega, by show 0 ≤ _; omega, by show 0 ≤ _; omega, by show 0 ≤ _; omega⟩
theorem numS_le {n : Int} (h : okN n) : (numS n).length ≤ 22 := numS_len (by have := h.1; omega) (by have := h.2; omega)
theorem note_len {a q d : Int} {ks : List Int} (h : NoteOk a q d ks) : (entryS (noteE a q d ks)).length ≤ 2000 := by
 have h1 := h.a; have h2 := h.q; have h3 := h.d; have h4 := h.l
 have n1 := numS_le (n := a) ⟨by omega, by omega⟩
 have n2 := numS_le (n := q) ⟨by omega, by omega⟩
 have n3 := numS_le (n := d) ⟨by omega, by omega⟩
 have n4 := numsS_len (l := ks) (fun x hx => by have := h.k x hx; exact ⟨by omega, by omega⟩) (by omega)
 have n5 := numS_le (n := 1) ⟨by decide, by decide⟩
 have n6 := numS_le (n := 0) ⟨by decide, by decide⟩
 have n7 := intS_len (n := 0) (by decide) (by decide)
 have n8 := intS_len (n := -1) (by decide) (by decide)
 have n9 := numsS_len (l := []) (fun x hx => by cases hx) (by decide)
 have n10 := textS_len (s := []) (by decide)
 unfold entryS
 split
 ·unfold headS midS spansS noteE
  simp only [List.length_append, List.map_nil, List.flatten_nil, List.length_nil, Int.natCast_zero] at n9 n10 ⊢
  omega
 ·simp
theorem note_inj {a q d a' q' d' : Int} {ks ks' : List Int} (h : NoteOk a q d ks) (h' : NoteOk a' q' d' ks') (e : entryS (noteE a q d ks) = entryS (noteE a' q' d' ks')) : noteE a q d ks = noteE a' q' d' ks' := by
 have h1 := note_read h
 have h2 := note_read h'
 rw [e, h2] at h1
 exact (congrArg Prod.fst h1).symm
abbrev auR (R : List SK) (m : Int) : Int := (entR R m).author
def Prev (R : List SK) (m : Int) : Prop := ((entR R m).seq = 0 ∧ ∀ x, AncR R x m → auR R x ≠ auR R m) ∨ ∃ p, AncR R p m ∧ auR R p = auR R m ∧ (entR R m).seq = (entR R p).seq + 1 ∧ ∀ x, AncR R x m → auR R x = auR R m → x = p ∨ AncR R x p
structure Tidy (R : List SK) (N : List Nd) : Prop where
 chain : ∀ m m', m ∈ mksN N → m' ∈ mksN N → auR R m = auR R m' → m = m' ∨ AncR R m m' ∨ AncR R m' m
 prev : ∀ m, m ∈ mksN N → Prev R m
section
variable {R : List SK} {N : List Nd} (h : GN R N) (ht : Tidy R N)
include h ht
end
structure Vil where
 R : List SK
 H : List (List Nd)
 back : Int
 met : List Int
def inU (H : List (List Nd)) (m : Int) : Prop := ∃ N ∈ H, m ∈ mksN N
structure VI (n d : Nat) (S : Vil) : Prop where
 hn : S.H.length = n
 rl : S.R.length ≤ d
 ring : ∀ p ∈ S.R, (okSK p ∧ p.2.length ≤ 2000) ∧ (readE p.2).1.day < (d : Int)
 good : ∀ N ∈ S.H, GN S.R N
 note : ∀ m, inU S.H m → (entR S.R m).kind = 1
 chain : ∀ m m', inU S.H m → inU S.H m' → auR S.R m = auR S.R m' → m = m' ∨ AncR S.R m m' ∨ AncR S.R m' m
 prev : ∀ m, inU S.H m → Prev S.R m
 own : ∀ (j : Nat) N, S.H[j]? = some N → (j : Int) ≠ S.back → ∀ m, inU S.H m → auR S.R m = j → m ∈ mksN N
 lost : ∀ (j : Nat) N, S.H[j]? = some N → (j : Int) = S.back → ∀ m, inU S.H m → auR S.R m = j → m ∈ mksN N ∨ ∃ (q : Nat) (M : List Nd), S.H[q]? = some M ∧ (q : Int) ∉ S.met ∧ q ≠ j ∧ m ∈ mksN M
 back : S.back = -1 ∨ (0 ≤ S.back ∧ S.back < n)
 ml : S.met.length ≤ 2 * d
theorem VI.kind {n d : Nat} {S : Vil} (h : VI n d S) {N : List Nd} (hN : N ∈ S.H) : ∀ x ∈ marksB N, (entB N x).kind = 1 := fun x hx => by
 have := mks_mem.1 hx
 rw [(h.good N hN).entB this]
 exact h.note x ⟨N, hN, this⟩
theorem VI.up {n d : Nat} {S : Vil} (h : VI n d S) : VI n (d + 1) S := ⟨h.hn, by have := h.rl; omega, fun p hp => ⟨(h.ring p hp).1, by have := (h.ring p hp).2; push_cast; omega⟩, h.good, h.note, h.chain, h.prev, h.own, h.lost, h.back, by have := h.ml; omega⟩
theorem VI.meet {n d : Nat} {S : Vil} (h : VI n d S) {a b : Nat} {Na Nb : List Nd} (ha : S.H[a]? = some Na) (hb : S.H[b]? = some Nb) {H' : List (List Nd)} (hl : H'.length = n) (hgood : ∀ N ∈ H', GN S.R N)
  (hoth : ∀ j, j ≠ a → j ≠ b → H'[j]? = S.H[j]?) (hab : ∀ j, j = a ∨ j = b → ∃ M, H'[j]? = some M ∧ ∀ m, m ∈ mksN M ↔ m ∈ mksN Na ∨ m ∈ mksN Nb) :
  VI n (d + 1) { S with H := H', met := (S.met ++ if S.back = (a : Int) then [(b : Int)] else []) ++ if S.back = (b : Int) then [(a : Int)] else [] } := by
 have hU : ∀ m, inU H' m → inU S.H m := fun m ⟨M, hM, hm⟩ => by
  obtain ⟨j, hj⟩ := List.getElem?_of_mem hM
  by_cases e : j = a ∨ j = b
  ·obtain ⟨M', hM', hmm⟩ := hab j e
   rw [hj] at hM'; cases hM'
   rcases (hmm m).1 hm with q | q
   ·exact ⟨Na, List.mem_of_getElem? ha, q⟩
   ·exact ⟨Nb, List.mem_of_getElem? hb, q⟩
  ·rw [hoth j (fun q => e (.inl q)) (fun q => e (.inr q))] at hj
   exact ⟨M, List.mem_of_getElem? hj, hm⟩
 have hgrow : ∀ (j : Nat) M N, H'[j]? = some M → S.H[j]? = some N → ∀ m ∈ mksN N, m ∈ mksN M := fun j M N hj hj' m hm => by
  by_cases e : j = a ∨ j = b
  ·obtain ⟨M', hM', hmm⟩ := hab j e
   rw [hj] at hM'; cases hM'
   rcases e with rfl | rfl
   ·rw [ha] at hj'; cases hj'; exact (hmm m).2 (.inl hm)
   ·rw [hb] at hj'; cases hj'; exact (hmm m).2 (.inr hm)
  ·rw [hoth j (fun q => e (.inl q)) (fun q => e (.inr q)), hj'] at hj
   cases hj; exact hm
 have hold : ∀ (j : Nat) M, H'[j]? = some M → ∃ N, S.H[j]? = some N := fun j M hj => by
  have hj1 := (List.getElem?_eq_some_iff.1 hj).1
  exact ⟨_, List.getElem?_eq_getElem (by rw [h.hn]; omega)⟩
 refine ⟨hl, h.up.rl, h.up.ring, hgood, fun m hm => h.note m (hU m hm), fun m m' hm hm' => h.chain m m' (hU m hm) (hU m' hm'), fun m hm => h.prev m (hU m hm), fun j M hj hjb m hmU hma => ?_, fun j M hj hjb m hmU hma => ?_, h.back, by
  have := h.ml
  simp only [List.length_append]
  split <;> split <;> simp <;> omega⟩
 ·obtain ⟨N, hN⟩ := hold j M hj
  exact hgrow j M N hj hN m (h.own j N hN hjb m (hU m hmU) hma)
 ·simp only at hjb
  obtain ⟨N, hN⟩ := hold j M hj
  rcases h.lost j N hN hjb m (hU m hmU) hma with q | ⟨q, Q, hq, hqm, hqj, hmQ⟩
  ·exact .inl (hgrow j M N hj hN m q)
  ·by_cases ea : j = a
   ·subst ea
    by_cases eb : q = b
    ·subst eb
     rw [hb] at hq; cases hq
     obtain ⟨M', hM', hmm⟩ := hab j (.inl rfl)
     rw [hj] at hM'; cases hM'
     exact .inl ((hmm m).2 (.inr hmQ))
    ·refine .inr ⟨q, Q, by rw [hoth q hqj eb]; exact hq, ?_, hqj, hmQ⟩
     simp only
     intro hmem
     rcases List.mem_append.1 hmem with hmem | hmem
     ·rcases List.mem_append.1 hmem with hmem | hmem
      ·exact hqm hmem
      ·split at hmem
       ·have := List.mem_singleton.1 hmem; omega
       ·cases hmem
     ·split at hmem
      ·have := List.mem_singleton.1 hmem; omega
      ·cases hmem
   ·by_cases eb : j = b
    ·subst eb
     by_cases ec : q = a
     ·subst ec
      rw [ha] at hq; cases hq
      obtain ⟨M', hM', hmm⟩ := hab j (.inr rfl)
      rw [hj] at hM'; cases hM'
      exact .inl ((hmm m).2 (.inl hmQ))
     ·refine .inr ⟨q, Q, by rw [hoth q ec hqj]; exact hq, ?_, hqj, hmQ⟩
      simp only
      intro hmem
      rcases List.mem_append.1 hmem with hmem | hmem
      ·rcases List.mem_append.1 hmem with hmem | hmem
       ·exact hqm hmem
       ·split at hmem
        ·omega
        ·cases hmem
      ·split at hmem
       ·have := List.mem_singleton.1 hmem; omega
       ·cases hmem
    ·have hqn := (List.getElem?_eq_some_iff.1 hq).1
     obtain ⟨Q', hQ'⟩ : ∃ Q', H'[q]? = some Q' := ⟨_, List.getElem?_eq_getElem (by rw [hl, ← h.hn]; exact hqn)⟩
     refine .inr ⟨q, Q', hQ', ?_, hqj, hgrow q Q' Q hQ' hq m hmQ⟩
     simp only
     intro hmem
     rcases List.mem_append.1 hmem with hmem | hmem
     ·rcases List.mem_append.1 hmem with hmem | hmem
      ·exact hqm hmem
      ·split at hmem
       ·omega
       ·cases hmem
     ·split at hmem
      ·omega
      ·cases hmem
end Go.Proofs.YtdigebokbhmfaaaGreatDoor.Ap
namespace Go.Vc
theorem ansG_call {P : Program} {f : FuncId} {args : List Value} {r : RV} {G : Prop} {st : St} {d : Option Nat} {K : St → Prop} (hb : Body P f) (hn : noPr r = true) (h : ∀ w, Holds st w → G ∧ Ans P f args r w) (hk : G → goPut st d r K) : UCall P st f args d K :=
 .inl ⟨hb, fun hwf w hw => (h w hw).2.mono fun e w' ⟨he, hx⟩ => ⟨r, st, he, ⟨rfl, rfl, rfl, rfl⟩, hwf, noPr_ok hn, hw.ext hx, hk (h w hw).1⟩⟩
end Go.Vc
namespace Go.Proofs.YtdigebokbhmfaaaGreatDoor.Ap
open Go.Vc Rt Go.Bs
set_option maxHeartbeats 1000000
theorem note_c (a q : Int) (v : Value) (hv : v.oneCell' = true) (w : World) : Ans Tryz.prog 25 [vI a, vI q, v] (.s (.agg (encE (noteE a q 0 []) v (.slice none 0 0) (.slice none 0 0)))) w := by
 refine calls_plainB [.i a, .i q, .x v] Tryz.func25 rfl rfl (Nat.le_of_ble_eq_true rfl) rfl fun B hB => ?_
 repeat refine zq ?_
 refine zr ?_; conv => whnf
 intro b6; conv => whnf
 repeat refine zq ?_
 refine zr ?_; conv => whnf
 repeat (first | (refine ⟨rfl, ?_⟩; conv => whnf) | (refine ⟨hv, ?_⟩; conv => whnf))
 repeat refine zq ?_
 refine At.ret (At.doneB tab_ok hB _ rfl fun w' hw => ⟨rfl, hw.fr⟩)
theorem iR1 : iR 1 := ⟨by decide, by decide⟩
theorem iR2 : iR 2 := ⟨by decide, by decide⟩
theorem ok0 : NoteOk 1 0 0 [] := ⟨by decide, by decide, by decide, fun x hx => (by cases hx), by decide, .nil⟩
theorem ok1 : NoteOk 1 1 0 [0] := ⟨by decide, by decide, by decide, fun x hx => (by rw [List.mem_singleton.1 hx]; decide), by decide, by simp⟩
theorem ok2 : NoteOk 2 0 0 [1] := ⟨by decide, by decide, by decide, fun x hx => (by rw [List.mem_singleton.1 hx]; decide), by decide, by simp⟩
def x0 : Nd := ⟨1, entryS (noteE 1 0 0 []), 0, noteE 1 0 0 [], 0, []⟩
def x1 : Nd := ⟨1, entryS (noteE 1 1 0 [0]), 1, noteE 1 1 0 [0], 1, [1]⟩
def x2 : Nd := ⟨2, entryS (noteE 2 0 0 [1]), 2, noteE 2 0 0 [1], 2, [3]⟩
def rS3 : List SK := [(x0.key, x0.text), (x1.key, x1.text), (x2.key, x2.text)]
def nS3 : List Nd := [x0, x1, x2]
theorem new1 : (x1.key, x1.text) ∉ [(x0.key, x0.text)] := fun h => by
 have e := List.mem_singleton.1 h
 have := note_inj ok1 ok0 (congrArg Prod.snd e)
 exact absurd (congrArg En.seq this) (by decide)
theorem new2 : (x2.key, x2.text) ∉ [(x0.key, x0.text), (x1.key, x1.text)] := fun h => by
 rcases List.mem_cons.1 h with e | h
 ·exact absurd (congrArg Prod.fst e) (by decide)
 ·exact absurd (congrArg Prod.fst (List.mem_singleton.1 h)) (by decide)
def SgN (R : List SK) (x : Nd) : Prop := signL R x.key x.text = R ++ [(x.key, x.text)] ∧ sgT R x.key x.text = (x.key, x.text, (R.length : Int)) ∧ validR (R ++ [(x.key, x.text)]) x.key x.text R.length = true
theorem sg0 : SgN [] x0 := sign_new (R := []) (k := x0.key) (t := x0.text) (by decide) (by simp)
theorem sg1 : SgN [(x0.key, x0.text)] x1 := sign_new (R := [(x0.key, x0.text)]) (k := x1.key) (t := x1.text) (by decide) new1
theorem sg2 : SgN [(x0.key, x0.text), (x1.key, x1.text)] x2 := sign_new (R := [(x0.key, x0.text), (x1.key, x1.text)]) (k := x2.key) (t := x2.text) (by decide) new2
theorem ao0 : AddOk [(x0.key, x0.text)] [] x0 := ⟨sg0.2.2, by show (readE (entryS (noteE 1 0 0 []))).2 = 0; rw [note_read ok0], by show _ = (readE (entryS (noteE 1 0 0 []))).1; rw [note_read ok0]; rfl, rfl, rfl, rfl, fun h => absurd rfl h.1, by decide, rfl, rfl⟩
theorem ao1 : AddOk [(x0.key, x0.text), (x1.key, x1.text)] [x0] x1 := ⟨sg1.2.2, by show (readE (entryS (noteE 1 1 0 [0]))).2 = 0; rw [note_read ok1], by show _ = (readE (entryS (noteE 1 1 0 [0]))).1; rw [note_read ok1]; rfl, rfl, rfl, rfl, fun h => absurd rfl h.1, by decide, by kernel_rfl, by kernel_rfl⟩
theorem ao2 : AddOk rS3 [x0, x1] x2 := ⟨sg2.2.2, by show (readE (entryS (noteE 2 0 0 [1]))).2 = 0; rw [note_read ok2], by show _ = (readE (entryS (noteE 2 0 0 [1]))).1; rw [note_read ok2]; rfl, rfl, rfl, rfl, fun h => absurd rfl h.1, by decide, by kernel_rfl, by kernel_rfl⟩
theorem gn3 : GN rS3 nS3 := by
 have l1 : RLe [(x0.key, x0.text)] rS3 := ⟨[(x1.key, x1.text), (x2.key, x2.text)], rfl⟩
 have l2 : RLe [(x0.key, x0.text), (x1.key, x1.text)] rS3 := ⟨[(x2.key, x2.text)], rfl⟩
 exact (((GN.nil rS3).snoc (addB_of (ao0.le l1))).snoc (addB_of (ao1.le l2))).snoc (addB_of ao2)
theorem rg3 : RgOk rS3 := ⟨by decide, fun p hp => by
 have l0 : x0.text.length ≤ 2000 := note_len ok0
 have l1 : x1.text.length ≤ 2000 := note_len ok1
 have l2 : x2.text.length ≤ 2000 := note_len ok2
 simp only [rS3, List.mem_cons, List.not_mem_nil, or_false] at hp
 rcases hp with rfl | rfl | rfl
 ·exact ⟨⟨⟨by decide, by decide⟩, by show x0.text.length ≤ _; omega⟩, by show x0.text.length ≤ _; omega⟩
 ·exact ⟨⟨⟨by decide, by decide⟩, by show x1.text.length ≤ _; omega⟩, by show x1.text.length ≤ _; omega⟩
 ·exact ⟨⟨⟨by decide, by decide⟩, by show x2.text.length ≤ _; omega⟩, by show x2.text.length ≤ _; omega⟩⟩
theorem can3 : canB nS3 = nS3 := (can_uniq gn3.nodup (.refl _) (by
 unfold nS3
 refine List.pairwise_cons.2 ⟨fun b hb => ?_, List.pairwise_cons.2 ⟨fun b hb => ?_, List.pairwise_singleton _ _⟩⟩
 ·simp only [List.mem_cons, List.not_mem_nil, or_false] at hb
  rcases hb with rfl | rfl <;> (unfold ltN; simp [x0, x1, x2])
 ·rw [List.mem_singleton.1 hb]; unfold ltN; simp [x1, x2])).symm
theorem sor3 : sortedB nS3 = [0, 1, 2] := by unfold sortedB; rw [can3]; rfl
theorem mks3 : marksB nS3 = [0, 1, 2] := List.Perm.eq_of_pairwise (le := fun a b : Int => a ≤ b) (fun a b _ _ h1 h2 => Int.le_antisymm h1 h2) (sortI_sorted _) (by decide) (sortI_perm _)
theorem own3 : ownOf nS3 1 = [0, 1] := by unfold ownOf; rw [sor3]; kernel_rfl
theorem gone3 : goneB nS3 1 1 = [1] := by unfold goneB cutO; rw [own3]; rfl
theorem lost3 : lostQ nS3 1 1 0 = false ∧ lostQ nS3 1 1 1 = true ∧ lostQ nS3 1 1 2 = true := by
 unfold lostQ; rw [gone3]
 exact ⟨by kernel_rfl, by kernel_rfl, by kernel_rfl⟩
theorem marksA3 : marksB (beforeH rS3 nS3 1 1) = [0] := by
 have hp : (mksN (beforeH rS3 nS3 1 1)).Perm [0] := (List.perm_ext_iff_of_nodup (before_good gn3 rg3.len 1 1).nodup (by simp)).2 fun m => by
  rw [before_mem gn3 rg3.len, List.mem_singleton]
  constructor
  ·rintro ⟨hm, hl⟩
   have : m = 0 ∨ m = 1 ∨ m = 2 := by simpa [mksN, nS3, x0, x1, x2] using hm
   rcases this with rfl | rfl | rfl
   ·rfl
   ·rw [lost3.2.1] at hl; cases hl
   ·rw [lost3.2.2] at hl; cases hl
  ·rintro rfl
   exact ⟨by simp [mksN, nS3, x0], lost3.1⟩
 have : marksB (beforeH rS3 nS3 1 1) = sortI [0] := sortI_eq hp
 rw [this]
 simp [sortI]
theorem kind3 : ∀ x ∈ marksB nS3, (entB nS3 x).kind = 1 := by
 rw [mks3]
 intro x hx
 simp only [List.mem_cons, List.not_mem_nil, or_false] at hx
 rcases hx with rfl | rfl | rfl <;> rfl
theorem nofork3 : NoFork nS3 := by
 unfold NoFork
 rw [mks3]
 intro a ha b hb he
 simp only [List.mem_cons, List.not_mem_nil, or_false] at ha hb
 rcases ha with rfl | rfl | rfl <;> rcases hb with rfl | rfl | rfl <;> kernel_rfl
theorem right3 : rightS [1, 2, 3] 0 0 = true := by kernel_rfl
def esV (v w : Value) : List (En × Value) := [(noteE 1 0 0 [], .slice none 0 0), (noteE 1 1 0 [0], v), (noteE 2 0 0 [1], w)]
def encEV (p : En × Value) : List CV := encE p.1 p.2 (.slice none 0 0) (.slice none 0 0)
theorem nopEV (xs : List (En × Value)) : NoP (xs.map encEV) := NoP.map (fun _ => rfl) xs
theorem small_c (w : World) (hG : Gl w) : Ans Tryz.prog 5 [] (.b true) w := by
 have hNok := nok_good rg3 gn3
 have hAok := nok_good rg3 (before_good gn3 rg3.len 1 1)
 refine calls_e [] Tryz.func5 rfl rfl (Nat.le_of_ble_eq_true rfl) trivial fun B hB => ?_
 repeat refine zq ?_
 refine zr ?_; conv => whnf
 repeat refine zq ?_
 refine zr ?_; conv => whnf
 refine newAb_call (fun i : Nat × List Nat => .x (ptr i.1)) (fun i => i.2) (fun i => RingQ i.1 i.2 []) b18 (fun _ => rfl) (fun w' hw => ring_new w' (hG.ext hw.fr)) ?_
 rintro ⟨rb, BR0⟩
 conv => whnf
 repeat refine zq ?_
 refine zr ?_; conv => whnf
 refine newAb_call (fun i : Nat × List Nat => .x (ptr i.1)) (fun i => i.2) (fun i => HistQ i.1 rb i.2 []) b19 (fun _ => rfl) (fun w' hw => hnew8 rb w' (hG.ext hw.fr)) ?_
 rintro ⟨hb, B0⟩
 conv => whnf
 repeat refine zq ?_
 refine At.regionG tab_ok ?_; conv => whnf
 repeat refine zq ?_
 refine At.cond (t := false) rfl (fun hq => by cases hq) (fun _ => At.skip ?_)
 repeat refine zq ?_
 refine zr ?_; conv => whnf
 refine ans_call (r := .s (.agg (encE (noteE 1 0 0 []) (.slice none 0 0) (.slice none 0 0) (.slice none 0 0)))) b25 rfl (fun w' _ => note_c 1 0 (.slice none 0 0) rfl w') ?_; conv => whnf
 intro v2; conv => whnf
 refine ansG_call (G := ∃ a n c, v2 = .slice a n c) (r := .s (.agg (encE (noteE 1 1 0 [0]) v2 (.slice none 0 0) (.slice none 0 0)))) b25 rfl (fun w' hw => ⟨hw.sl (id := 2) rfl, note_c 1 1 v2 (by obtain ⟨a, n, c, e⟩ := hw.sl (id := 2) rfl; rw [e]; rfl) w'⟩) ?_
 intro hv2; conv => whnf
 intro v3; conv => whnf
 refine ansG_call (G := ∃ a n c, v3 = .slice a n c) (r := .s (.agg (encE (noteE 2 0 0 [1]) v3 (.slice none 0 0) (.slice none 0 0)))) b25 rfl (fun w' hw => ⟨hw.sl (id := 3) rfl, note_c 2 0 v3 (by obtain ⟨a, n, c, e⟩ := hw.sl (id := 3) rfl; rw [e]; rfl) w'⟩) ?_
 intro hv3; conv => whnf
 have o2 : v2.oneCell' = true := by obtain ⟨a, n, c, e⟩ := hv2; rw [e]; rfl
 have o3 : v3.oneCell' = true := by obtain ⟨a, n, c, e⟩ := hv3; rw [e]; rfl
 refine ⟨rfl, ?_⟩; conv => whnf
 refine ⟨rfl, ?_⟩; conv => whnf
 refine ⟨rfl, ?_⟩; conv => whnf
 refine ⟨o2, ?_⟩; conv => whnf
 refine ⟨rfl, ?_⟩; conv => whnf
 refine ⟨rfl, ?_⟩; conv => whnf
 refine ⟨o3, ?_⟩; conv => whnf
 refine ⟨rfl, ?_⟩; conv => whnf
 refine ⟨rfl, ?_⟩; conv => whnf
 intro v4; conv => whnf
 repeat refine zq ?_
 refine zr ?_; conv => whnf
 repeat refine zq ?_
 refine At.block ?_
 refine At.loopH (fun p' : Nat × List Nat × List Nat => { N := Tryz.f5.ntmps, sl := [(1, some (.x ((ptr rb)))), (2, some (.x ((ptr hb)))), (3, some (.s (.c (.o 4 v4)))), (4, some (.i p'.1))], gl := [], hp := [(4, .row v4 40 13 ((esV v2 v3).map encEV)), (3, .row v3 3 1 ([1].map encI)), (2, .row v2 3 1 ([0].map encI)), (1, histO hb rb p'.2.2 (nS3.take p'.1)), (0, ringO rb p'.2.1 (rS3.take p'.1))], S := [], ws := w }) (fun p' : Nat × List Nat × List Nat => p'.1 ≤ 3) (fun p' : Nat × List Nat × List Nat => 3 - p'.1)
  (fun w' hw => ⟨(0, BR0, B0), Nat.zero_le _, Le.of rfl rfl ⟨rfl, rfl, rfl, rfl, trivial⟩, hw.keep [4, 3, 2, 1, 0] rfl rfl rfl, ⟨⟨_, _, _, rfl⟩, trivial⟩, ⟨(nopEV _).okH, (nopI _).okH, (nopI _).okH, trivial⟩⟩) ?_
 rintro ⟨k, BR, BH⟩ hk
 simp only at hk ⊢
 repeat refine zq ?_
 refine zr ?_; conv => whnf
 refine ⟨rfl, ?_⟩; conv => whnf
 repeat refine zq ?_
 refine At.cond rfl (fun hc => At.skip ?_) (fun hc => At.exit ?_)
 ·have hlt : k < 3 := by have := of_decide_eq_true hc; simp [esV] at this; omega
  have hst : ∃ p : En × Value, (esV v2 v3)[k]? = some p ∧ EnR p.1 ∧ p.1.keys = [] ∧ p.1.spans = [] ∧ (entryS p.1).length ≤ 2000 ∧ iR p.1.author ∧ p.2.oneCell' = true ∧ ((p.2 = .slice none 0 0 ∧ p.1.knows = []) ∨ (p.2 = v2 ∧ p.1.knows = [0]) ∨ (p.2 = v3 ∧ p.1.knows = [1])) ∧
    signL (rS3.take k) p.1.author (entryS p.1) = rS3.take (k + 1) ∧ sgT (rS3.take k) p.1.author (entryS p.1) = (p.1.author, entryS p.1, (k : Int)) ∧ addB (rS3.take (k + 1)) (nS3.take k) p.1.author (entryS p.1) k = (nS3.take (k + 1), 0) := by
   rcases k with _ | _ | _ | k
   ·exact ⟨_, rfl, note_R ok0, rfl, rfl, note_len ok0, iR1, rfl, .inl ⟨rfl, rfl⟩, sg0.1, sg0.2.1, addB_of ao0⟩
   ·exact ⟨_, rfl, note_R ok1, rfl, rfl, note_len ok1, iR1, o2, .inr (.inl ⟨rfl, rfl⟩), sg1.1, sg1.2.1, addB_of ao1⟩
   ·exact ⟨_, rfl, note_R ok2, rfl, rfl, note_len ok2, iR2, o3, .inr (.inr ⟨rfl, rfl⟩), sg2.1, sg2.2.1, addB_of ao2⟩
   ·omega
  obtain ⟨⟨e, kv⟩, hp, hER, hey, hes, htl, hau, hone, hkv, hs1, hs2, hs3⟩ := hst
  simp only at hER hey hes htl hau hone hkv hs1 hs2 hs3
  have hNk : NOk (nS3.take k) := nok_good rg3 (gn3.take k)
  have hRk : (rS3.take k).length ≤ 3 := by rw [List.length_take]; omega
  have hkE : ∀ {st : St} {w' : World}, Holds st w' → Vc.look st.hp 2 = some (.row v2 3 1 ([0].map encI)) → Vc.look st.hp 3 = some (.row v3 3 1 ([1].map encI)) → EnIn [] w' e kv (.slice none 0 0) (.slice none 0 0) := fun hw l2 l3 => by
   refine ⟨?_, by rw [hey]; exact nilI, by rw [hes]; exact SlOf.of_row (enc := encS) (E := 50) nil_holds (fun b hb => by simp [blkOf] at hb) (by simp)⟩
   rcases hkv with ⟨rfl, h⟩ | ⟨rfl, h⟩ | ⟨rfl, h⟩
   ·rw [h]; exact nilI
   ·rw [h]; exact slI _ (hw.row l2) (by simp)
   ·rw [h]; exact slI _ (hw.row l3) (by simp)
  generalize hgR : rS3.take k = Rk at hs1 hs2 hRk ⊢
  generalize hgN : nS3.take k = Nk at hs3 hNk ⊢
  repeat refine zq ?_
  refine At.block ?_
  repeat refine zq ?_
  refine At.planG tab_ok mixed [(4, .row v4 40 13 ((esV v2 v3).map encEV))] (.take 0 (.take 1 (.take 2 (.take 3 (.take 4 (.take 5 (.take 6 (.take 7 (.take 8 (.take 9 (.take 10 (.br 11 (.br 12 (.br 13 (.take 14 (.done)) (.nob)) (.nob)) (.nob))))))))))))) (by kernel_rfl) (by kernel_rfl) ⟨rfl, trivial⟩ ?_; conv => whnf
  refine ⟨rfl, ?_⟩; conv => whnf
  refine ⟨by omega, ?_⟩; conv => whnf
  refine ⟨by (try simp only [List.length_map]); simp [esV]; omega, ?_⟩; conv => whnf
  refine ⟨encEV (e, kv), ⟨rfl, rfl, by omega, by rw [Int.toNat_natCast, List.getElem?_map, hp]; rfl⟩, ?_⟩; conv => whnf
  refine ⟨rfl, ?_⟩; conv => whnf
  refine ⟨by omega, ?_⟩; conv => whnf
  refine ⟨by (try simp only [List.length_map]); simp [esV]; omega, ?_⟩; conv => whnf
  refine ⟨encEV (e, kv), ⟨rfl, rfl, by omega, by rw [Int.toNat_natCast, List.getElem?_map, hp]; rfl⟩, ?_⟩; conv => whnf
  refine ⟨?_, trivial⟩; conv => whnf
  refine ans_call (r := rS (entryS e)) b28 rfl (fun w' hw => etext_c e kv (.slice none 0 0) (.slice none 0 0) [] w' (hkE hw rfl rfl) hER (hG.ext hw.fr)) ?_; conv => whnf
  refine ⟨⟨⟨rfl, trivial⟩, fun w' hw => hw.fr⟩, ?_⟩; conv => whnf
  refine ⟨?_, trivial⟩; conv => whnf
  refine sign_call (id := 0) (rb := rb) (B := BR) (R := Rk) (k := e.author) (t := entryS e) rfl ⟨hau, by show (entryS e).length ≤ _; omega⟩ (by omega) (fun w' hw => (hG.ext hw.fr).size) ?_
  intro BR2
  rw [hs1, hs2]
  conv => whnf
  refine ⟨⟨⟨rfl, trivial⟩, fun w' hw => hw.fr⟩, ?_⟩; conv => whnf
  refine ⟨?_, trivial⟩; conv => whnf
  refine add_call (id := 1) (h := hb) (rb := rb) (B := BH) (N := Nk) (R := rS3.take (k + 1)) (k := e.author) (mk := (k : Int)) (t := entryS e) rfl hNk ⟨hau, by show (entryS e).length ≤ _; omega⟩ (by omega) (fun w' hw => hG.ext hw.fr) (fun w' hw => ringO_rr (hw.objs _ (look_mem (s := 0) rfl)) (fun b hb hm => hw.apart (i := 1) (j := 0) rfl rfl (by decide) b (mem_nub.2 hb) (mem_nub.2 hm))) ?_
  intro B4
  rw [hs3]
  conv => whnf
  refine ⟨⟨⟨rfl, trivial⟩, fun w' hw => hw.fr⟩, ?_⟩; conv => whnf
  repeat refine zq ?_
  refine At.cond (t := false) rfl (fun hq => by cases hq) (fun _ => At.skip ?_)
  repeat refine zq ?_
  refine zr ?_; conv => whnf
  refine ⟨⟨by omega, by omega⟩, ?_⟩; conv => whnf
  refine At.nextH fun w' hw => ⟨(k + 1, BR2, B4), by simp only; omega, by simp only; omega, Le.of rfl rfl ⟨rfl, rfl, rfl, rfl, trivial⟩, hw.keep [4, 3, 2, 1, 0] rfl rfl rfl, ⟨⟨_, _, _, rfl⟩, trivial⟩, ⟨(nopEV _).okH, (nopI _).okH, (nopI _).okH, trivial⟩⟩
 ·have hge : k = 3 := by have := of_decide_eq_false hc; simp [esV] at this; omega
  subst hge
  rw [show nS3.take 3 = nS3 from rfl, show rS3.take 3 = rS3 from rfl]
  have hH : ∀ {st : St} {w' : World}, Holds st w' → Vc.look st.hp 1 = some (histO hb rb BH nS3) → HR [] w' hb rb nS3 := fun hw hl => histO_hr (hw.objs _ (look_mem hl)) hNok (fun b hb => by cases hb)
  have hRR : ∀ {st : St} {w' : World}, Holds st w' → Vc.look st.hp 0 = some (ringO rb BR rS3) → RgR [] w' rb rS3 := fun hw hl => ringO_rr (hw.objs _ (look_mem hl)) (fun b hb => by cases hb)
  repeat refine zq ?_
  refine zr ?_; conv => whnf
  intro v5; conv => whnf
  intro b6; conv => whnf
  repeat refine zq ?_
  refine zr ?_; conv => whnf
  refine newAb_call (fun i : Nat × List Nat => .x (ptr i.1)) (fun i => i.2) (fun i => HistQ i.1 rb i.2 (beforeH rS3 nS3 1 1)) b9 (fun _ => rfl) (fun w' hw => before_h hb rb nS3 hNok rS3 1 1 w' (hG.ext hw.fr) (hH hw rfl) (hRR hw rfl)) ?_
  rintro ⟨ha, BA⟩
  conv => whnf
  have hHA : ∀ {st : St} {w' : World}, Holds st w' → Vc.look st.hp 7 = some (histO ha rb BA (beforeH rS3 nS3 1 1)) → HR [] w' ha rb (beforeH rS3 nS3 1 1) := fun hw hl => histO_hr (hw.objs _ (look_mem hl)) hAok (fun b hb => by cases hb)
  repeat refine zq ?_
  refine zr ?_; conv => whnf
  repeat refine zq ?_
  refine At.cond (t := false) rfl (fun hq => by cases hq) (fun _ => At.skip ?_)
  repeat refine zq ?_
  refine zr ?_; conv => whnf
  repeat (first | (refine ⟨rfl, ?_⟩; conv => whnf))
  intro v8; conv => whnf
  refine newAbG_call (fun i : Nat × List Nat × List Nd => .tup [.c (.x (ptr i.1)), .c (.i 0)]) (fun i => i.2.1) (fun i => HistQ i.1 rb i.2.1 i.2.2) (fun i => GN rS3 i.2.2 ∧ ∀ m, m ∈ mksN i.2.2 ↔ m ∈ mksN (beforeH rS3 nS3 1 1) ∨ ∃ x ∈ [(hb, rb, nS3)], m ∈ mksN x.2.2) b10 (fun _ => rfl) (fun w' hw => restore_r ha rb (beforeH rS3 nS3 1 1) rS3 rg3 (before_good gn3 rg3.len 1 1) [(hb, rb, nS3)] (fun x hx => by rw [List.mem_singleton.1 hx]; exact gn3) v8 w' (hG.ext hw.fr) (hHA hw rfl) (hRR hw rfl) (fun x hx => by rw [List.mem_singleton.1 hx]; exact hH hw rfl) (SlOf.of_row (enc := fun v => [.x v]) (xs := [ptr hb]) (hw.row (id := 8) rfl) (fun b hb => nilS) (by simp))) ?_
  rintro ⟨hr, BB, M⟩ ⟨hgM, hmM⟩
  simp only at hgM hmM
  conv => whnf
  have hMok := nok_good rg3 hgM
  have hsame : marksB M = marksB nS3 := marks_eq hgM gn3 fun m => by
   rw [hmM]
   constructor
   ·rintro (h | ⟨x, hx, h⟩)
    ·exact ((before_mem gn3 rg3.len 1 1).1 h).1
    ·rw [List.mem_singleton.1 hx] at h; exact h
   ·intro h; exact .inr ⟨_, List.mem_singleton.2 rfl, h⟩
  repeat refine zq ?_
  refine At.regionG tab_ok ?_; conv => whnf
  repeat refine zq ?_
  refine At.cond (t := false) rfl (fun hq => by cases hq) (fun _ => At.skip ?_)
  repeat refine zq ?_
  refine zr ?_; conv => whnf
  repeat (first | (refine ⟨rfl, ?_⟩; conv => whnf))
  intro v10; conv => whnf
  refine ans_call (r := .tup [.c (.x (.pointer none)), .c (.i 1)]) b10 rfl (fun w' hw => restoreN_c ha v10 w' (SlOf.of_row (enc := fun v => [.x v]) (xs := [.pointer none]) (hw.row (id := 10) rfl) (fun b hb => nilS) (by simp))) ?_; conv => whnf
  have hS : ∀ {st : St} {w' : World}, Holds st w' → Vc.look st.hp 5 = some (.row v5 3 1 ([1, 2, 3].map encI)) → SlOf intT [] w' v5 [1, 2, 3] := fun hw hl => slI _ (hw.row hl) (by simp)
  repeat refine zq ?_
  refine At.regionG tab_ok ?_; conv => whnf
  refine ansR_call b12 (rd1 (nopI _)) (fun w' hw => by have := marks_r ha rb _ hAok w' (hHA hw rfl); rw [marksA3] at this; exact this) ?_
  intro v11; conv => whnf
  intro v12; conv => whnf
  refine ans_call (r := .b true) b29 rfl (fun w' hw => ints_r [0] [0] v11 v12 w' (slI _ (hw.row (id := 11) rfl) (by simp)) (slI _ (hw.row (id := 12) rfl) (by simp))) ?_; conv => whnf
  intro v13; conv => whnf
  refine ansR_call b30 (rd1 (nopI _)) (fun w' hw => by
   have := missing_c hb rb nS3 hNok kind3 [1, 2, 3] v5 0 0 right3 1 [2] v13 w' (hH hw rfl) (hS hw rfl) (by simp) (slI _ (hw.row (id := 13) rfl) (by simp))
   rw [show missB [1, 2, 3] 1 [2] = [3] from rfl] at this; exact this) ?_
  intro v14; conv => whnf
  intro v15; conv => whnf
  refine ans_call (r := .b true) b29 rfl (fun w' hw => ints_r [3] [3] v14 v15 w' (slI _ (hw.row (id := 14) rfl) (by simp)) (slI _ (hw.row (id := 15) rfl) (by simp))) ?_; conv => whnf
  intro v16; conv => whnf
  refine ans_call (r := .b false) b31 rfl (fun w' hw => safe_c hb rb nS3 hNok kind3 [1, 2, 3] v5 0 0 right3 1 [2] v16 w' (hH hw rfl) (hS hw rfl) (by simp) (slI _ (hw.row (id := 16) rfl) (by simp))) ?_; conv => whnf
  intro v17; conv => whnf
  refine ans_call (r := .b true) b31 rfl (fun w' hw => safe_c hb rb nS3 hNok kind3 [1, 2, 3] v5 0 0 right3 1 [3, 2] v17 w' (hH hw rfl) (hS hw rfl) (by simp) (slI _ (hw.row (id := 17) rfl) (by simp))) ?_; conv => whnf
  repeat refine zq ?_
  refine At.regionG tab_ok ?_; conv => whnf
  intro v18; conv => whnf
  refine ans_call (r := .i 0) b24 rfl (fun w' hw => may_c hb rb nS3 hNok kind3 nofork3 [1, 2, 3] v5 0 0 right3 1 [3, 2] v18 w' (hH hw rfl) (hS hw rfl) (by simp) (slI _ (hw.row (id := 18) rfl) (by simp))) ?_; conv => whnf
  intro v19; conv => whnf
  refine ans_call (r := .i 18) b24 rfl (fun w' hw => may_c hb rb nS3 hNok kind3 nofork3 [1, 2, 3] v5 0 0 right3 9 [3, 2] v19 w' (hH hw rfl) (hS hw rfl) (by simp) (slI _ (hw.row (id := 19) rfl) (by simp))) ?_; conv => whnf
  intro v20; conv => whnf
  refine ans_call (r := .i 19) b24 rfl (fun w' hw => may_c hb rb nS3 hNok kind3 nofork3 [1, 2, 3] v5 0 0 right3 1 [2] v20 w' (hH hw rfl) (hS hw rfl) (by simp) (slI _ (hw.row (id := 20) rfl) (by simp))) ?_; conv => whnf
  refine ans_call (r := .b true) b16 rfl (fun w' hw => by
   have := same_r hr rb hb rb M nS3 hMok hNok w' (histO_hr (hw.objs _ (look_mem (s := 9) rfl)) hMok (fun b hb => by cases hb)) (hH hw rfl)
   rw [hsame, decide_eq_true rfl] at this; exact this) ?_
  conv => whnf
  repeat refine zq ?_
  refine At.ret (At.doneB tab_ok hB _ rfl fun w' hw => ⟨rfl, hw.fr⟩)
end Go.Proofs.YtdigebokbhmfaaaGreatDoor.Ap
