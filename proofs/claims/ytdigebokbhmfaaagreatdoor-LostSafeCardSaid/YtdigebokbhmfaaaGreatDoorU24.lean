/- Texts that the law leans on. -/
import Derived.Test.YtdigebokbhmfaaaGreatDoorU22
import Derived.Test.YtdigebokbhmfaaaGreatDoorOVcMap
import Derived.Test.YtdigebokbhmfaaaGreatDoorU18
import Derived.WideKeyArgs
import Derived.DeepKeys4
set_option linter.unusedVariables false
set_option linter.unusedSimpArgs false
namespace Go.Proofs.YtdigebokbhmfaaaGreatDoor
open Go.Vc Rt Go.Bs
theorem laidOut : Go.laidOutB Tryz.prog = true := by kernel_rfl
theorem row126 : (121 : TypeId) < Tryz.prog.types.size := of_decide_eq_true (by kernel_rfl)
theorem law126 : Go.WideMaps.KeyLaw Tryz.prog 121 := Go.deep_law_laid laidOut (m := 2) (by omega) row126 (by kernel_rfl) (by kernel_rfl)
end Go.Proofs.YtdigebokbhmfaaaGreatDoor
namespace Go.Proofs.YtdigebokbhmfaaaGreatDoor
open Go.Vc Rt Go.Bs
abbrev SK := Int × List UInt8
def eSK (p : SK) : Value := .agg #[.int .i64 p.1, .string (bs p.2)]
def okSK (p : SK) : Prop := iR p.1 ∧ p.2.length ≤ 1000000
theorem kt126 : Tryz.prog.keyType 121 = true := by kernel_rfl
theorem succ_of {a b : Nat} (h : a < b) : ∃ n, b = n + 1 := ⟨b - 1, by omega⟩
theorem ts : ∃ n, Tryz.prog.types.size = n + 1 := succ_of (a := 121) row126
theorem c126 : Tryz.prog.cellsOf 121 = 2 := by kernel_rfl
theorem c3 : Tryz.prog.cellsOf 3 = 1 := by kernel_rfl
theorem c9 : Tryz.prog.cellsOf 9 = 1 := by kernel_rfl
theorem u3 : Tryz.prog.underlying 3 = some (.int .i64) := by kernel_rfl
theorem key126 {p : SK} (h : okSK p) : ∃ l, keyOf Tryz.prog 121 (eSK p) = some l := by
 obtain ⟨k, t⟩ := p
 obtain ⟨hk, ht⟩ := h
 simp only at hk ht
 obtain ⟨n, hn⟩ := ts
 have hs : (bs t).size ≤ maxLen := by rw [size_bs]; unfold maxLen; omega
 have hw : (Lit.int IntKind.i64 k).wf = true := by
  have h1 : (IntKind.i64).min = -9223372036854775808 := by decide
  have h2 : (IntKind.i64).max = 9223372036854775807 := by decide
  simp only [Lit.wf, h1, h2, Bool.and_eq_true, decide_eq_true_eq]; exact hk
 have hf : (Value.agg #[.int .i64 k, .string (bs t)]).formed Tryz.prog 121 = true := by simp [Value.formed, Tryz.underlying121, c126]
 unfold keyOf
 rw [Tryz.underlying121]
 have hl : ∃ ls, Tryz.prog.keyLits (Tryz.prog.types.size + 1) 121 [.int .i64 k, .string (bs t)] = some ls := by
  rw [hn]
  simp [Program.keyLits, Tryz.underlying121, c126, c3, c9, u3, u9, hw, hs]
 obtain ⟨ls, hl⟩ := hl
 exact ⟨_, by simp only [kt126, eSK, hf, Bool.and_self, if_true]; show (Tryz.prog.keyLits _ 121 [.int .i64 k, .string (bs t)]).map _ = _; rw [hl]; rfl⟩
end Go.Proofs.YtdigebokbhmfaaaGreatDoor
namespace Go.Proofs.YtdigebokbhmfaaaGreatDoor
open Go.Vc Rt Go.Bs
theorem kl126 : KL Tryz.prog 121 (fun v => ∃ l, keyOf Tryz.prog 121 v = some l) := KL.wide law126
theorem eSK_inj (a b : SK) (h : eSK a = eSK b) : a = b := by
 obtain ⟨k, t⟩ := a
 obtain ⟨k', t'⟩ := b
 simp only [eSK, Value.agg.injEq] at h
 have h1 := congrArg (fun x => x[0]?) h
 have h2 := congrArg (fun x => x[1]?) h
 simp at h1 h2
 have h3 : t = t' := by
  have := congrArg (fun x => x.data.toList) h2
  simpa [bs] using this
 rw [h1, h3]
theorem um63 : Tryz.prog.underlying 102 = some (.map 121 3) := by kernel_rfl
theorem z3 (w : World) : (zeroValue 3).run Tryz.prog w = .ok (CV.i 0).den w := by kernel_rfl
def idxL (R : List SK) : List (SK × Int) := R.zipIdx.map fun p => (p.1, (p.2 : Int))
theorem idxL_snoc (R : List SK) (p : SK) : idxL (R ++ [p]) = idxL R ++ [(p, (R.length : Int))] := by simp [idxL, List.zipIdx_append]
theorem idxL_mem {R : List SK} {q : SK × Int} (h : q ∈ idxL R) : q.1 ∈ R := by
 obtain ⟨p, hp, rfl⟩ := List.mem_map.1 h
 exact List.fst_mem_of_mem_zipIdx hp
def encSK (p : SK) : List CV := [.i p.1, .s p.2]
structure RingAt (w : World) (b : Nat) (v : Value) (m : Nat) (R : List SK) : Prop where
 box : w.heap[b]? = some (.cells #[v, .map (some m)] 105 (0, 0))
 map : MapAt eSK vI w m (idxL R)
 row : (LO.row v 121 2 (R.map encSK)).holds w
 d1 : b ≠ m
 d2 : b ∉ blkOf v
 d3 : m ∉ blkOf v
 ok : ∀ p ∈ R, okSK p
theorem sealNew_c (w : World) : Calls Tryz.prog 18 #[] w (fun e w' => ∃ b m, e = .returned (ptr b) ∧ RingAt w' b (.slice none 0 0) m [] ∧ w.heap.size ≤ b ∧ w.heap.size ≤ m ∧ Ext w w') := by
 refine calls_plainB [] Tryz.func18 rfl rfl (Nat.le_of_ble_eq_true rfl) rfl fun B hB => ?_
 repeat refine zq ?_
 refine zr ?_; conv => whnf
 repeat refine zq ?_
 refine zr ?_; conv => whnf
 refine rawE_make eSK vI ?_
 intro m; conv => whnf
 refine ⟨rfl, ?_⟩; conv => whnf
 refine ⟨rfl, ?_⟩; conv => whnf
 refine ⟨rfl, ?_⟩; conv => whnf
 intro b; conv => whnf
 repeat refine zq ?_
 refine At.ret (At.doneB tab_ok hB _ rfl fun w' hw => ?_)
 have hb := hw.box (id := 1) rfl
 have hm := mapO_at (hw.objs _ (look_mem (s := 0) rfl))
 have hd := hw.apart (i := 1) (j := 0) rfl rfl (by decide)
 refine ⟨b, m, rfl, ⟨hb, hm, nil_holds, fun e => hd b (by simp [LO.blks]) (mem_nub.2 (by simp [e])), by simp [blkOf], by simp [blkOf], by simp⟩, ?_, ?_, hw.fr⟩
 ·exact (hw.fresh (id := 1) rfl b (by simp [LO.blks])).elim (fun h => by cases h) _root_.id
 ·exact (hw.fresh (id := 0) rfl m (mem_nub.2 (by simp))).elim (fun h => by cases h) _root_.id
end Go.Proofs.YtdigebokbhmfaaaGreatDoor
namespace Go.Proofs.YtdigebokbhmfaaaGreatDoor
open Go.Vc Rt Go.Bs
def vSg (k : Int) (t : List UInt8) (mk : Int) : Value := .agg #[.int .i64 k, sv t, .int .i64 mk]
def validR (R : List SK) (k : Int) (t : List UInt8) (mk : Int) : Bool := (alook (idxL R) (k, t)).isSome && decide ((alook (idxL R) (k, t)).getD 0 = mk)
def mapRaw (m : Nat) (es : Array MapEntry) (clock : Nat) : LO := .ab [m] (fun w => w.heap[m]? = some (.map es clock))
theorem mapRaw_holds {w : World} {m : Nat} {es : Array MapEntry} {clock : Nat} (h : w.heap[m]? = some (.map es clock)) : (mapRaw m es clock).holds w :=
 ⟨fun b hb => by rw [List.mem_singleton.1 hb]; exact (Array.getElem?_eq_some_iff.1 h).1, fun w' hs => (hs m (by simp)).trans h⟩
theorem mapRaw_at {w : World} {m : Nat} {es : Array MapEntry} {clock : Nat} (h : (mapRaw m es clock).holds w) : w.heap[m]? = some (.map es clock) := h.2 w fun _ _ => rfl
theorem RawQ_den {P : Program} {st : St} {keys : Keys} {o : Oper} {r r' : RV} (h : RawQ P st keys o r) (e : r.den = r'.den) : RawQ P st keys o r' := ⟨fun ρ hρ w hw => by rw [← e]; exact h.out ρ hρ w hw⟩
theorem rawQ_lookupI {K : Type} [DecidableEq K] {eK : K → Value} {G : Value → Prop} {kt t : TypeId} {r : Nat} {L : List (K × Int)} {st : St} {dst : Option Nat} {ty : TypeId} {pos : String} {after : Array Edge} {guard : Option (Nat × Bool)} {keys : Keys} {x i : Operand} {key : K} {kv : RV}
  (kl : KL Tryz.prog kt G) (hG : G (eK key)) (hL : ∀ p ∈ L, G (eK p.1)) (inj : ∀ a b, eK a = eK b → a = b) (ht : Tryz.prog.underlying t = some (.map kt 3))
  (hx : opv st keys x = some (.s (.c (.x (.map (some r)))))) (hi : opv st keys i = some kv) (hk : kv.den = eK key) (hm : ∀ w, Holds st w → MapAt eK vI w r L) :
  RawQ Tryz.prog st keys { dst := dst, op := .lookup t x i true, type := ty, pos := pos, after := after, guard := guard } (.tup [.c (.i ((alook L key).getD 0)), .c (.b (alook L key).isSome)]) := by
 refine RawQ_den (rawQ_lookup (fV := CV.i) (z := .i 0) (c := true) kl hG hL inj ht z3 (fun _ => rfl) hx hi hk hm) ?_
 cases alook L key <;> rfl
theorem key_c' (n : Int) (w : World) : Ans Tryz.prog 56 [vI n] (.b (isKeyB n)) w := by
 refine calls_plainB [.i n] Tryz.func56 rfl rfl (Nat.le_of_ble_eq_true rfl) rfl fun B hB => ?_
 repeat refine zq ?_
 refine zr ?_; conv => whnf
 repeat refine zq ?_
 refine zr ?_; conv => whnf
 repeat refine zq ?_
 refine At.ret (At.doneB tab_ok hB _ rfl fun w' hw => ⟨?_, hw.fr⟩)
 simp only [RV.den, SV.den, CV.den, band, isKeyB]
theorem valid_sc (b : Nat) (v : Value) (m : Nat) (R : List SK) (k mk : Int) (t : List UInt8) (hk : okSK (k, t)) (w : World) (h : RingAt w b v m R) : Ans Tryz.prog 54 [ptr b, vSg k t mk] (.b (validR R k t mk)) w := by
 obtain ⟨es, clock, hm, hms, hml⟩ := h.map
 have hvs := ownsAt_slice h.row.1
 have hobj : ∀ o ∈ [(0, LO.box b 105 [.x v, .x (.map (some m))]), (1, mapRaw m es clock)], o.2.holds w := fun o ho => by
  simp only [List.mem_cons, List.not_mem_nil, or_false] at ho
  rcases ho with rfl | rfl
  ·exact h.box
  ·exact mapRaw_holds hm
 have hS : ([(0, LO.box b 105 [.x v, .x (.map (some m))]), (1, mapRaw m es clock)].flatMap fun o => o.2.blks) = [b, m] := by simp [LO.blks, mapRaw, nub]
 have hen := enter_objs (N := Tryz.f54.ntmps) (l := [.s (.c (.p 0 b 0)), .s (.agg [.i k, .s t, .i mk])]) (hp := [(0, .box b 105 [.x v, .x (.map (some m))]), (1, mapRaw m es clock)]) hobj (by
  rw [hS]; exact List.nodup_cons.2 ⟨by simp [h.d1], by simp⟩)
 rw [hS] at hen
 refine calls_atB [.s (.c (.p 0 b 0)), .s (.agg [.i k, .s t, .i mk])] [(0, .box b 105 [.x v, .x (.map (some m))]), (1, mapRaw m es clock)] [b, m] Tryz.func54 rfl rfl (Nat.le_of_ble_eq_true rfl) (WF.objs hen ⟨⟨_, _, rfl⟩, trivial⟩ trivial) hen fun B hB => ?_
 repeat refine zq ?_
 refine zr ?_; conv => whnf
 intro b3; conv => whnf
 repeat refine zq ?_
 refine At.draw tab_ok mixed (by kernel_rfl) ?_; conv => whnf
 refine ⟨.tup [.c (.i ((alook (idxL R) (k, t)).getD 0)), .c (.b (alook (idxL R) (k, t)).isSome)], gimp_of (rawQ_lookupI (key := (k, t)) kl126 (key126 hk) (fun p hp => key126 (h.ok _ (idxL_mem hp))) eSK_inj um63 rfl rfl rfl (fun w' hw => ⟨es, clock, mapRaw_at (hw.objs _ (look_mem (s := 1) rfl)), hms, hml⟩)), ?_⟩; conv => whnf
 repeat refine zq ?_
 refine zr ?_; conv => whnf
 repeat refine zq ?_
 refine At.ret (At.doneB tab_ok hB _ rfl fun w' hw => ⟨?_, hw.fr.ext fun c hc => ?_⟩)
 ·simp only [RV.den, SV.den, CV.den, band, validR]
 ·rcases List.mem_cons.1 hc with rfl | hc
  ·exact (hw.box (id := 0) rfl).trans h.box.symm
  ·rw [List.mem_singleton.1 hc]; exact (mapRaw_at (hw.objs _ (look_mem (s := 1) rfl))).trans hm.symm
end Go.Proofs.YtdigebokbhmfaaaGreatDoor
namespace Go.Proofs.YtdigebokbhmfaaaGreatDoor
open Go.Vc Rt Go.Bs
theorem nopSK (xs : List SK) : NoP (xs.map encSK) := NoP.map (fun _ => rfl) xs
def signM (R : List SK) (k : Int) (t : List UInt8) : Int := if isKeyB k then (alook (idxL R) (k, t)).getD R.length else 0
def signL (R : List SK) (k : Int) (t : List UInt8) : List SK := if isKeyB k ∧ alook (idxL R) (k, t) = none then R ++ [(k, t)] else R
def signV (R : List SK) (k : Int) (t : List UInt8) : Value := if isKeyB k then vSg k t (signM R k t) else vSg 0 [] 0
theorem blkOf_nodup (v : Value) : (blkOf v).Nodup := by unfold blkOf; split <;> simp
theorem own_of {st : St} {w : World} {b m : Nat} {v v' : Value} {R' : List SK} {c : List CV} {L : List (SK × Int)} (hw : Holds st w) (h0 : Vc.look st.hp 0 = some (.box b 105 c)) (h1 : Vc.look st.hp 1 = some (.row v' 121 2 (R'.map encSK))) (h2 : Vc.look st.hp 2 = some (mapO eSK vI m L)) (hS : st.S = b :: (blkOf v ++ [m])) :
  b ∉ blkOf v' ∧ m ∉ blkOf v' ∧ ∀ x ∈ blkOf v', x ∈ blkOf v ∨ st.ws.heap.size ≤ x := by
 have a1 := hw.apart h0 h1 (by decide)
 have a2 := hw.apart h2 h1 (by decide)
 have hb : b ∉ blkOf v' := a1 b (by simp [LO.blks])
 have hm : m ∉ blkOf v' := a2 m (mem_nub.2 (by simp))
 refine ⟨hb, hm, fun x hx => ?_⟩
 rcases hw.fresh h1 x hx with h | h
 ·rw [hS] at h
  rcases List.mem_cons.1 h with rfl | h
  ·exact absurd hx hb
  ·rcases List.mem_append.1 h with h | h
   ·exact .inl h
   ·rw [List.mem_singleton.1 h] at hx; exact absurd hx hm
 ·exact .inr h
theorem sign_c (b : Nat) (v : Value) (m : Nat) (R : List SK) (k : Int) (t : List UInt8) (hk : okSK (k, t)) (hR : R.length ≤ 1000000) (w : World) (h : RingAt w b v m R) :
  Calls Tryz.prog 27 #[ptr b, vI k, sv t] w (fun e w' => ∃ v', e = .returned (signV R k t) ∧ RingAt w' b v' m (signL R k t) ∧ Fr (b :: (blkOf v ++ [m])) w w' ∧ ∀ x ∈ blkOf v', x ∈ blkOf v ∨ w.heap.size ≤ x) := by
 have hobj : ∀ o ∈ [(0, LO.box b 105 [.o 1 v, .x (.map (some m))]), (1, LO.row v 121 2 (R.map encSK)), (2, mapO eSK vI m (idxL R))], o.2.holds w := fun o ho => by
  simp only [List.mem_cons, List.not_mem_nil, or_false] at ho
  rcases ho with rfl | rfl | rfl
  ·exact h.box
  ·exact h.row
  ·exact mapO_holds h.map
 have hS : ([(0, LO.box b 105 [.o 1 v, .x (.map (some m))]), (1, LO.row v 121 2 (R.map encSK)), (2, mapO eSK vI m (idxL R))].flatMap fun o => o.2.blks) = b :: (blkOf v ++ [m]) := by simp [LO.blks, mapO, nub]
 have hen := enter_objs (N := Tryz.f27.ntmps) (l := [.s (.c (.p 0 b 0)), .i k, rS t]) (hp := [(0, .box b 105 [.o 1 v, .x (.map (some m))]), (1, LO.row v 121 2 (R.map encSK)), (2, mapO eSK vI m (idxL R))]) hobj (by
  rw [hS]
  refine List.nodup_cons.2 ⟨fun hm => ?_, List.nodup_append.2 ⟨blkOf_nodup v, by simp, fun x hx y hy => ?_⟩⟩
  ·rcases List.mem_append.1 hm with hm | hm
   ·exact h.d2 hm
   ·exact h.d1 (List.mem_singleton.1 hm)
  ·rw [List.mem_singleton.1 hy]; intro e; exact h.d3 (e ▸ hx))
 rw [hS] at hen
 have hsl := ownsAt_slice h.row.1
 refine calls_atB [.s (.c (.p 0 b 0)), .i k, rS t] [(0, .box b 105 [.o 1 v, .x (.map (some m))]), (1, LO.row v 121 2 (R.map encSK)), (2, mapO eSK vI m (idxL R))] (b :: (blkOf v ++ [m])) Tryz.func27 rfl rfl (Nat.le_of_ble_eq_true rfl) (WF.objs hen ⟨⟨_, _, rfl⟩, trivial⟩ ⟨fun c hc => by simp at hc; rcases hc with rfl | rfl <;> first | exact ⟨_, _, _, rfl⟩ | trivial, (nopSK _).okH, trivial⟩) hen fun B hB => ?_
 repeat refine zq ?_
 refine zr ?_; conv => whnf
 intro b6; conv => whnf
 repeat refine zq ?_
 refine zr ?_; conv => whnf
 refine ans_call b56 rfl (fun w' _ => key_c' k w') ?_; conv => whnf
 repeat refine zq ?_
 refine At.cond rfl (fun hq => ?_) (fun hq => At.skip ?_)
 ·have hkb : isKeyB k = false := by simpa using hq
  repeat refine zq ?_
  refine zr ?_; conv => whnf
  repeat refine zq ?_
  refine At.ret (At.doneB tab_ok hB _ rfl fun w' hw => ?_)
  have hap1 := hw.apart (i := 0) (j := 1) rfl rfl (by decide)
  have hap2 := hw.apart (i := 0) (j := 2) rfl rfl (by decide)
  have hap3 := hw.apart (i := 2) (j := 1) rfl rfl (by decide)
  refine ⟨v, by rw [signV, if_neg (by rw [hkb]; decide)]; rfl, ?_, hw.fr, fun x hx => .inl hx⟩
  rw [signL, if_neg (by rw [hkb]; simp)]
  exact ⟨hw.box (id := 0) rfl, mapO_at (hw.objs _ (look_mem (s := 2) rfl)), hw.row (id := 1) rfl, h.d1, h.d2, h.d3, h.ok⟩
 have hkb : isKeyB k = true := by simpa using hq
 clear hq
 repeat refine zq ?_
 refine zr ?_; conv => whnf
 intro b7; conv => whnf
 repeat refine zq ?_
 refine At.draw tab_ok mixed (by kernel_rfl) ?_; conv => whnf
 refine ⟨.tup [.c (.i ((alook (idxL R) (k, t)).getD 0)), .c (.b (alook (idxL R) (k, t)).isSome)], gimp_of (rawQ_lookupI (key := (k, t)) kl126 (key126 hk) (fun p hp => key126 (h.ok _ (idxL_mem hp))) eSK_inj um63 rfl rfl rfl (fun w' hw => mapO_at (hw.objs _ (look_mem (s := 2) rfl)))), ?_⟩; conv => whnf
 repeat refine zq ?_
 refine zr ?_; conv => whnf
 repeat refine zq ?_
 cases hal : alook (idxL R) (k, t) with
 | some i =>
  refine At.cond (t := false) rfl (fun hq => by cases hq) (fun _ => At.skip ?_)
  repeat refine zq ?_
  refine zr ?_; conv => whnf
  repeat refine zq ?_
  refine At.ret (At.doneB tab_ok hB _ rfl fun w' hw => ?_)
  refine ⟨v, ?_, ?_, hw.fr, fun x hx => .inl hx⟩
  ·rw [signV, if_pos hkb, signM, if_pos hkb, hal]; rfl
  ·rw [signL, if_neg (by rw [hal]; simp)]
   exact ⟨hw.box (id := 0) rfl, mapO_at (hw.objs _ (look_mem (s := 2) rfl)), hw.row (id := 1) rfl, h.d1, h.d2, h.d3, h.ok⟩
 | none =>
  have hput : aput (idxL R) (k, t) (R.length : Int) = idxL (R ++ [(k, t)]) := by rw [idxL_snoc, aput, hal]; rfl
  have hsL : signL R k t = R ++ [(k, t)] := by rw [signL, if_pos ⟨hkb, hal⟩]
  have hsV : signV R k t = vSg k t R.length := by rw [signV, if_pos hkb, signM, if_pos hkb, hal]; rfl
  refine At.cond (t := true) rfl (fun _ => ?_) (fun hq => by cases hq)
  repeat refine zq ?_
  refine zr ?_; conv => whnf
  refine ⟨rfl, ?_⟩; conv => whnf
  repeat refine zq ?_
  refine At.planG tab_ok mixed [(4, LO.box b7 121 [.i k, .s t])] (.take 0 (.take 1 (.take 2 (.take 3 (.take 5 (.br 4 (.br 6 (.br 7 (.take 8 (.take 9 (.br 10 (.done) (.nob)))) (.nob)) (.nob)) (.br 6 (.br 4 (.br 7 (.take 8 (.take 9 (.br 10 (.done) (.nob)))) (.nob)) (.nob)) (.nob)))))))) (by kernel_rfl) (by kernel_rfl) ⟨rfl, trivial⟩ ?_; conv => whnf
  refine ⟨?_, ?_, trivial⟩
  ·conv => whnf
   refine ⟨⟨⟨rfl, trivial⟩, fun w' hw => hw.fr⟩, ?_⟩; conv => whnf
   refine ⟨?_, trivial⟩; conv => whnf
   intro v8; conv => whnf
   refine ⟨⟨⟨rfl, trivial⟩, fun w' hw => hw.fr⟩, ?_⟩; conv => whnf
   refine ⟨?_, trivial⟩; conv => whnf
   refine ⟨rfl, ?_⟩; conv => whnf
   refine ⟨⟨rfl, by simp; omega⟩, ?_⟩; conv => whnf
   intro v9; conv => whnf
   refine ⟨⟨⟨rfl, trivial⟩, fun w' hw => hw.fr⟩, ?_⟩; conv => whnf
   refine ⟨?_, trivial⟩; conv => whnf
   refine ⟨⟨⟨rfl, trivial⟩, fun w' hw => hw.fr⟩, ?_⟩; conv => whnf
   repeat refine zq ?_
   refine At.planG tab_ok mixed [(4, LO.box b7 121 [.i k, .s t]), (0, LO.box b 105 [.o 1 v9, .x (.map (some m))])] (.take 0 (.take 1 (.take 2 (.take 3 (.take 4 (.take 5 (.br 6 (.done) (.nob)))))))) (by kernel_rfl) (by kernel_rfl) ⟨rfl, rfl, trivial⟩ ?_; conv => whnf
   refine ⟨?_, trivial⟩; conv => whnf
   refine rawE_update (id := 2) (key := (k, t)) (v := (R.length : Int)) kl126 (key126 hk) (fun p hp => key126 (h.ok _ (idxL_mem hp))) eSK_inj um63 rfl rfl rfl rfl (congrArg (Value.int .i64) (by simp)) rfl ?_; conv => whnf
   refine ⟨⟨⟨rfl, rfl, trivial⟩, fun w' hw => hw.fr⟩, ?_⟩; conv => whnf
   rw [hput]
   repeat refine zq ?_
   refine zr ?_; conv => whnf
   repeat refine zq ?_
   refine At.ret (At.doneB tab_ok hB _ rfl fun w' hw => ?_)
   have ho := own_of (v' := v9) (R' := R ++ [(k, t)]) hw rfl (by simp only [List.map_append]; rfl) rfl rfl
   refine ⟨v9, ?_, ?_, hw.fr, ho.2.2⟩
   rw [hsV]
   simp [vSg, RV.den, SV.den, CV.den]
   rfl
   rw [hsL]
   exact ⟨hw.box (id := 0) rfl, mapO_at (hw.objs _ (look_mem (s := 2) rfl)), by rw [List.map_append]; exact hw.row (id := 1) rfl, h.d1, ho.1, ho.2.1, fun p hp => (List.mem_append.1 hp).elim (h.ok p) (fun e => by rw [List.mem_singleton.1 e]; exact hk)⟩
  ·conv => whnf
   intro v8; conv => whnf
   refine ⟨⟨⟨rfl, trivial⟩, fun w' hw => hw.fr⟩, ?_⟩; conv => whnf
   refine ⟨?_, trivial⟩; conv => whnf
   refine ⟨⟨⟨rfl, trivial⟩, fun w' hw => hw.fr⟩, ?_⟩; conv => whnf
   refine ⟨?_, trivial⟩; conv => whnf
   refine ⟨rfl, ?_⟩; conv => whnf
   refine ⟨⟨rfl, by simp; omega⟩, ?_⟩; conv => whnf
   intro v9; conv => whnf
   refine ⟨⟨⟨rfl, trivial⟩, fun w' hw => hw.fr⟩, ?_⟩; conv => whnf
   refine ⟨?_, trivial⟩; conv => whnf
   refine ⟨⟨⟨rfl, trivial⟩, fun w' hw => hw.fr⟩, ?_⟩; conv => whnf
   repeat refine zq ?_
   refine At.planG tab_ok mixed [(4, LO.box b7 121 [.i k, .s t]), (0, LO.box b 105 [.o 1 v9, .x (.map (some m))])] (.take 0 (.take 1 (.take 2 (.take 3 (.take 4 (.take 5 (.br 6 (.done) (.nob)))))))) (by kernel_rfl) (by kernel_rfl) ⟨rfl, rfl, trivial⟩ ?_; conv => whnf
   refine ⟨?_, trivial⟩; conv => whnf
   refine rawE_update (id := 2) (key := (k, t)) (v := (R.length : Int)) kl126 (key126 hk) (fun p hp => key126 (h.ok _ (idxL_mem hp))) eSK_inj um63 rfl rfl rfl rfl (congrArg (Value.int .i64) (by simp)) rfl ?_; conv => whnf
   refine ⟨⟨⟨rfl, rfl, trivial⟩, fun w' hw => hw.fr⟩, ?_⟩; conv => whnf
   rw [hput]
   repeat refine zq ?_
   refine zr ?_; conv => whnf
   repeat refine zq ?_
   refine At.ret (At.doneB tab_ok hB _ rfl fun w' hw => ?_)
   have ho := own_of (v' := v9) (R' := R ++ [(k, t)]) hw rfl (by simp only [List.map_append]; rfl) rfl rfl
   refine ⟨v9, ?_, ?_, hw.fr, ho.2.2⟩
   rw [hsV]
   simp [vSg, RV.den, SV.den, CV.den]
   rfl
   rw [hsL]
   exact ⟨hw.box (id := 0) rfl, mapO_at (hw.objs _ (look_mem (s := 2) rfl)), by rw [List.map_append]; exact hw.row (id := 1) rfl, h.d1, ho.1, ho.2.1, fun p hp => (List.mem_append.1 hp).elim (h.ok p) (fun e => by rw [List.mem_singleton.1 e]; exact hk)⟩
end Go.Proofs.YtdigebokbhmfaaaGreatDoor
namespace Go.Proofs.YtdigebokbhmfaaaGreatDoor
open Go.Vc Rt Go.Bs
def encW (n : Nat) : List CV := [.x (.int .u64 n)]
def wdT : Ty Nat := flat 1 encW (fun _ => rfl)
theorem nopW (xs : List Nat) : NoP (xs.map encW) := NoP.map (fun _ => rfl) xs
def okW (ws : List Nat) : Prop := ∀ x ∈ ws, x < 2 ^ 64
def testB (ws : List Nat) (i : Nat) : Bool := decide (i / 64 < ws.length) && (ws.getD (i / 64) 0).testBit (i % 64)
theorem getD_someN {xs : List Nat} {i : Nat} (h : i < xs.length) : xs[i]? = some (xs.getD i 0) := by
 rw [List.getElem?_eq_getElem h, List.getD_eq_getElem?_getD, List.getElem?_eq_getElem h]; rfl
theorem okW_get {ws : List Nat} (h : okW ws) (k : Nat) : ws.getD k 0 < 2 ^ 64 := by
 rw [List.getD_eq_getElem?_getD]
 cases hk : ws[k]? with
 | none => decide
 | some x => exact h x (List.mem_of_getElem? hk)
theorem bit_eq (x k : Nat) : decide (andU ((x : Int) / 2 ^ k) 1 = 1) = x.testBit k := by
 have e1 : ((x : Int) / 2 ^ k).toNat = x / 2 ^ k := by
  rw [show ((2 : Int) ^ k) = ((2 ^ k : Nat) : Int) by push_cast; rfl, ← Int.natCast_ediv, Int.toNat_natCast]
 unfold andU
 rw [e1, Nat.testBit, Nat.shiftRight_eq_div_pow, Nat.and_comm]
 have h2 : (x / 2 ^ k) % 2 = 0 ∨ (x / 2 ^ k) % 2 = 1 := by omega
 rw [show (1 : Int).toNat = 1 from rfl, Nat.one_and_eq_mod_two]
 rcases h2 with h2 | h2 <;> rw [h2] <;> rfl
theorem test_c (ws : List Nat) (hw64 : okW ws) (i : Nat) (S : List Nat) (v : Value) (w : World) (h : SlOf wdT S w v ws) (hi : i ≤ 1000000) : Ans Tryz.prog 36 [v, vI i] (.b (testB ws i)) w := by
 replace h := h.avoid (S' := []) (fun b hb => by cases hb)
 have hln := h.len
 have hq : ((i : Int) / 64) = ((i / 64 : Nat) : Int) := by omega
 have hr : ((i : Int) % 64) = ((i % 64 : Nat) : Int) := by omega
 refine calls_plainB [.x v, .i i] Tryz.func36 rfl rfl (Nat.le_of_ble_eq_true rfl) rfl fun B hB => ?_
 repeat refine zq ?_
 refine zr ?_; conv => whnf
 repeat refine zq ?_
 refine zr ?_; conv => whnf
 refine ⟨by omega, ?_⟩; conv => whnf
 refine ⟨by decide, ?_⟩; conv => whnf
 refine ⟨⟨by omega, by omega⟩, ?_⟩; conv => whnf
 refine ⟨h.sl, ?_⟩; conv => whnf
 refine ⟨by simp only [gimp]; intros; omega, ?_⟩; conv => whnf
 refine ⟨by simp only [gimp]; intros; decide, ?_⟩; conv => whnf
 refine ⟨by simp only [gimp]; intros; exact ⟨by omega, by omega⟩, ?_⟩; conv => whnf
 refine ⟨by simp only [gimp]; intros; omega, ?_⟩; conv => whnf
 refine ⟨by simp only [gimp]; intro h1; have := of_decide_eq_true h1; omega, ?_⟩; conv => whnf
 refine ⟨encW (ws.getD (i / 64) 0), by simp only [gimp]; intro h1 w' hw; have := of_decide_eq_true h1; exact h.loadI (n := 1) hw.fr (by omega) (by rw [hq, Int.toNat_natCast]; exact getD_someN (by omega)) rfl, ?_⟩; conv => whnf
 have hx := okW_get hw64 (i / 64)
 generalize hxe : ws.getD (i / 64) 0 = x at hx ⊢
 have hxd : (x : Int) / 2 ^ ((i : Int) % 64).toNat = ((x / 2 ^ (i % 64) : Nat) : Int) := by
  rw [hr, Int.toNat_natCast]; push_cast; rfl
 have hxl : x / 2 ^ (i % 64) ≤ x := Nat.div_le_self _ _
 refine ⟨by simp only [gimp]; intros; omega, ?_⟩; conv => whnf
 refine ⟨by simp only [gimp]; intros; decide, ?_⟩; conv => whnf
 refine ⟨by simp only [gimp]; intros; omega, ?_⟩; conv => whnf
 refine ⟨by simp only [gimp]; intros; omega, ?_⟩; conv => whnf
 refine ⟨by simp only [gimp]; intros; omega, ?_⟩; conv => whnf
 refine ⟨by simp only [gimp]; intros; rw [hxd]; generalize x / 2 ^ (i % 64) = y at hxl ⊢; exact ⟨by omega, by omega⟩, ?_⟩; conv => whnf
 refine ⟨by simp only [gimp]; intros; exact ⟨by decide, by decide⟩, ?_⟩; conv => whnf
 repeat refine zq ?_
 refine At.ret (At.doneB tab_ok hB _ rfl fun w' hw => ⟨?_, hw.fr⟩)
 simp only [RV.den, SV.den, CV.den, band, testB, hxe, hln]
 rw [← bit_eq, hr, Int.toNat_natCast, hq, show decide (((i / 64 : Nat) : Int) < ws.length) = decide (i / 64 < ws.length) by rw [decide_eq_decide]; omega]
end Go.Proofs.YtdigebokbhmfaaaGreatDoor
namespace Go.Proofs.YtdigebokbhmfaaaGreatDoor
open Go.Vc Rt Go.Bs
def RowG (f : FuncId) (args : List Value) (E size : Nat) (v : Value) (L' : List (List CV)) (w : World) : Prop :=
 Calls Tryz.prog f args.toArray w (fun e w' => ∃ v', e = .returned v' ∧ (LO.row v' E size L').holds w' ∧ Fr (blkOf v) w w' ∧ ∀ b ∈ blkOf v', b ∈ blkOf v ∨ w.heap.size ≤ b)
theorem rowG_call {st : St} {d : Option Nat} {K : St → Prop} {id E size : Nat} {f : FuncId} {args : List Value} {v : Value} {L L' : List (List CV)} (hb : Body Tryz.prog f) (hl : Vc.look st.hp id = some (.row v E size L)) (hn : NoP L')
  (h : ∀ w, Holds st w → RowG f args E size v L' w) (hk : ∀ v' : Value, hpSetK st.hp id (.row v' E size L') (fun hp => st.withHp hp (fun st' => goPut st' d (.s (.c (.o id v'))) K))) : UCall Tryz.prog st f args d K :=
 obj_call (id := id) (o := .row v E size L) hb hl (fun r o' => ∃ v', r = .s (.c (.o id v')) ∧ o' = .row v' E size L' ∧ (∃ a n c, v' = .slice a n c) ∧ (0 < L'.length → ∃ a n c, v' = .slice (some a) n c))
  (fun w hw => (h w hw).mono fun e w' ⟨v', he, h1, h2, h3⟩ => ⟨.s (.c (.o id v')), .row v' E size L', he, ⟨v', rfl, rfl, ownsAt_slice h1.1, rows_some h1⟩, h1, h2, h3⟩)
  (fun r o' ⟨v', hr, ho, hs, hs'⟩ => by
   subst hr; subst ho
   exact ⟨⟨stays_row, ⟨hs', hn.ok⟩, hs⟩, hk v'⟩)
theorem powU {j : Nat} (h : j < 64) : inU ((1 : Int) * 2 ^ j) := by
 have h1 : (2 : Nat) ^ j < 2 ^ 64 := Nat.pow_lt_pow_right (by decide) h
 have e : ((2 : Int) ^ j) = ((2 ^ j : Nat) : Int) := by push_cast; rfl
 rw [Int.one_mul, e]
 generalize (2 : Nat) ^ j = y at h1 ⊢
 exact ⟨Int.natCast_nonneg _, by omega⟩
theorem orU_eq (x j : Nat) : orU (x : Int) (1 * 2 ^ j) = ((x ||| 2 ^ j : Nat) : Int) := by
 have e : ((1 : Int) * 2 ^ j).toNat = 2 ^ j := by
  rw [Int.one_mul, show ((2 : Int) ^ j) = ((2 ^ j : Nat) : Int) by push_cast; rfl, Int.toNat_natCast]
 unfold orU
 rw [e, Int.toNat_natCast]
def growTo (ws : List Nat) (n : Nat) : List Nat := ws ++ List.replicate (n - ws.length) 0
def setB (ws : List Nat) (i : Nat) : List Nat := (growTo ws (i / 64 + 1)).set (i / 64) ((growTo ws (i / 64 + 1)).getD (i / 64) 0 ||| 2 ^ (i % 64))
theorem set_c (ws : List Nat) (hw64 : okW ws) (hl : ws.length ≤ 1000000) (i : Nat) (hi : i ≤ 1000000) (v : Value) (w : World) (h : (LO.row v 136 1 (ws.map encW)).holds w) : RowG 65 [v, vI i] 136 1 v ((setB ws i).map encW) w := by
 have hq : ((i : Int) / 64) = ((i / 64 : Nat) : Int) := by omega
 have hr : ((i : Int) % 64) = ((i % 64 : Nat) : Int) := by omega
 refine calls_atB [.s (.c (.o 0 v)), .i i] [(0, .row v 136 1 (ws.map encW))] (blkOf v) Tryz.func65 rfl rfl (Nat.le_of_ble_eq_true rfl) (WF.objs (enter_row h) ⟨⟨_, _, _, rfl⟩, trivial⟩ ⟨(nopW ws).okH, trivial⟩) (enter_row h) fun B hB => ?_
 repeat refine zq ?_
 refine zr ?_; conv => whnf
 repeat refine zq ?_
 refine At.block ?_
 refine At.loopH (fun p' : Nat × Value => { N := Tryz.f65.ntmps, sl := [(0, some (.s (.c (.o 0 p'.2)))), (1, some (.i i))], gl := [], hp := [(0, .row p'.2 136 1 ((ws ++ List.replicate p'.1 0).map encW))], S := (blkOf v), ws := w }) (fun p' : Nat × Value => p'.1 ≤ i / 64 + 1 - ws.length) (fun p' : Nat × Value => i / 64 + 1 - ws.length - p'.1)
  (fun w' hw => ⟨(0, v), Nat.zero_le _, Le.of rfl rfl ⟨rfl, rfl, trivial⟩, hw.keep [0] ?_ rfl rfl, ⟨⟨_, _, _, rfl⟩, trivial⟩, ⟨(nopW _).okH, trivial⟩⟩) ?_
 ·show [(0, LO.row v 136 1 _)] = [(0, LO.row v 136 1 _)]
  simp
 rintro ⟨k, vv⟩ hk
 simp only at hk ⊢
 repeat refine zq ?_
 refine zr ?_; conv => whnf
 refine ⟨rfl, ?_⟩; conv => whnf
 refine ⟨by omega, ?_⟩; conv => whnf
 refine ⟨by decide, ?_⟩; conv => whnf
 refine ⟨⟨by omega, by omega⟩, ?_⟩; conv => whnf
 repeat refine zq ?_
 refine At.cond rfl (fun hc => At.skip ?_) (fun hc => At.exit ?_)
 ·have hlt : ws.length + k ≤ i / 64 := by have := of_decide_eq_true hc; simp at this; omega
  repeat refine zq ?_
  refine At.block ?_
  repeat refine zq ?_
  refine zr ?_; conv => whnf
  refine ⟨rfl, ?_⟩; conv => whnf
  intro v8; conv => whnf
  refine ⟨rfl, ?_⟩; conv => whnf
  refine ⟨rfl, ?_⟩; conv => whnf
  refine ⟨⟨rfl, by simp; omega⟩, ?_⟩; conv => whnf
  intro v9; conv => whnf
  refine At.nextH fun w' hw => ⟨(k + 1, v9), by simp only; omega, by simp only; omega, Le.of rfl rfl ⟨rfl, rfl, trivial⟩, hw.keep [0] ?_ rfl rfl, ⟨⟨_, _, _, rfl⟩, trivial⟩, ⟨(nopW _).okH, trivial⟩⟩
  show [(0, LO.row v9 136 1 _)] = [(0, LO.row v9 136 1 _)]
  rw [List.replicate_succ', ← List.append_assoc, List.map_append]
  rfl
 ·have hge : i / 64 < ws.length + k := by have := of_decide_eq_false hc; simp at this; omega
  have hgr : ws ++ List.replicate k 0 = growTo ws (i / 64 + 1) := by
   unfold growTo
   congr 2; omega
  rw [hgr]
  have hgl : i / 64 < (growTo ws (i / 64 + 1)).length := by rw [← hgr]; simp; omega
  have hgo : okW (growTo ws (i / 64 + 1)) := by
   intro x hx
   rcases List.mem_append.1 hx with hx | hx
   ·exact hw64 x hx
   ·rw [List.eq_of_mem_replicate hx]; decide
  have hx := okW_get hgo (i / 64)
  have hxg := getD_someN hgl
  generalize hxe : (growTo ws (i / 64 + 1)).getD (i / 64) 0 = x at hx hxg
  have hpw : 2 ^ (i % 64) < 2 ^ 64 := Nat.pow_lt_pow_right (by decide) (by omega)
  repeat refine zq ?_
  refine At.planG tab_ok mixed [] (.take 0 (.take 1 (.take 2 (.take 5 (.take 6 (.take 7 (.br 3 (.br 4 (.take 8 (.br 9 (.br 10 (.done) (.nob)) (.nob))) (.nob)) (.nob)))))))) (by kernel_rfl) (by kernel_rfl) trivial ?_; conv => whnf
  refine ⟨by omega, ?_⟩; conv => whnf
  refine ⟨by decide, ?_⟩; conv => whnf
  refine ⟨⟨by omega, by omega⟩, ?_⟩; conv => whnf
  refine ⟨by omega, ?_⟩; conv => whnf
  refine ⟨by decide, ?_⟩; conv => whnf
  refine ⟨by omega, ?_⟩; conv => whnf
  refine ⟨by omega, ?_⟩; conv => whnf
  refine ⟨by rw [hr, Int.toNat_natCast]; exact powU (by omega), ?_⟩; conv => whnf
  refine ⟨?_, trivial⟩; conv => whnf
  refine ⟨rfl, ?_⟩; conv => whnf
  refine ⟨by omega, ?_⟩; conv => whnf
  refine ⟨by rw [List.length_map]; omega, ?_⟩; conv => whnf
  refine ⟨⟨trivial, fun w' hw => hw.fr⟩, ?_⟩; conv => whnf
  refine ⟨?_, trivial⟩; conv => whnf
  refine ⟨encW x, ⟨rfl, rfl, by omega, by rw [hq, Int.toNat_natCast, List.getElem?_map, hxg]; rfl⟩, ?_⟩; conv => whnf
  refine ⟨⟨trivial, fun w' hw => hw.fr⟩, ?_⟩; conv => whnf
  refine ⟨⟨by omega, by omega⟩, ?_⟩; conv => whnf
  refine ⟨by rw [hr, Int.toNat_natCast]; exact powU (by omega), ?_⟩; conv => whnf
  refine ⟨?_, trivial⟩; conv => whnf
  refine ⟨rfl, ?_⟩; conv => whnf
  refine ⟨by omega, ?_⟩; conv => whnf
  refine ⟨by rw [List.length_map]; omega, ?_⟩; conv => whnf
  refine ⟨⟨trivial, fun w' hw => hw.fr⟩, ?_⟩; conv => whnf
  refine ⟨?_, trivial⟩; conv => whnf
  refine ⟨encW x, ⟨rfl, rfl, by omega, by rw [hq, Int.toNat_natCast, List.getElem?_map, hxg]; rfl⟩, ?_⟩; conv => whnf
  refine ⟨rfl, ?_⟩; conv => whnf
  refine ⟨⟨trivial, fun w' hw => hw.fr⟩, ?_⟩; conv => whnf
  repeat refine zq ?_
  refine zr ?_; conv => whnf
  repeat refine zq ?_
  refine At.ret (At.doneB tab_ok hB _ rfl fun w' hw => ?_)
  have hrow := hw.row (id := 0) rfl
  have eset : (setB ws i).map encW = ((growTo ws (i / 64 + 1)).map encW).set ((i : Int) / 64).toNat [.x (.int .u64 (orU (x : Int) (1 * 2 ^ ((i : Int) % 64).toNat)))] := by rw [setB, hxe, hr, Int.toNat_natCast, orU_eq, hq, Int.toNat_natCast, List.map_set]; rfl
  rw [eset]
  exact ⟨vv, rfl, hrow, hw.fr, fun y hy => hw.fresh (id := 0) rfl y hy⟩
end Go.Proofs.YtdigebokbhmfaaaGreatDoor
namespace Go.Proofs.YtdigebokbhmfaaaGreatDoor
open Go.Vc Rt Go.Bs
def orUpTo (ws b : List Nat) : Nat → List Nat
 | 0 => ws
 | k + 1 => (orUpTo ws b k).set k ((orUpTo ws b k).getD k 0 ||| b.getD k 0)
def unionB (a b : List Nat) : List Nat := orUpTo (growTo a b.length) b b.length
theorem okW_set {ws : List Nat} (h : okW ws) (k x : Nat) (hx : x < 2 ^ 64) : okW (ws.set k x) := by
 intro y hy
 rcases List.mem_or_eq_of_mem_set hy with h' | h'
 ·exact h y h'
 ·rw [h']; exact hx
theorem okW_grow {ws : List Nat} (h : okW ws) (n : Nat) : okW (growTo ws n) := by
 intro x hx
 rcases List.mem_append.1 hx with hx | hx
 ·exact h x hx
 ·rw [List.eq_of_mem_replicate hx]; decide
theorem okW_or {ws b : List Nat} (h : okW ws) (hb : okW b) : ∀ k, okW (orUpTo ws b k)
 | 0 => h
 | k + 1 => okW_set (okW_or h hb k) k _ (Nat.or_lt_two_pow (okW_get (okW_or h hb k) k) (okW_get hb k))
theorem orUpTo_len {ws b : List Nat} : ∀ k, (orUpTo ws b k).length = ws.length
 | 0 => rfl
 | k + 1 => by rw [orUpTo, List.length_set, orUpTo_len k]
theorem grow_len (ws : List Nat) (n : Nat) : (growTo ws n).length = max ws.length n := by unfold growTo; simp; omega
theorem okW_union {a b : List Nat} (ha : okW a) (hb : okW b) : okW (unionB a b) := okW_or (okW_grow ha _) hb _
theorem okW_setB {ws : List Nat} (h : okW ws) (i : Nat) : okW (setB ws i) :=
 okW_set (okW_grow h _) _ _ (Nat.or_lt_two_pow (okW_get (okW_grow h _) _) (Nat.pow_lt_pow_right (by decide) (by omega)))
theorem union_c (a b : List Nat) (ha : okW a) (hb : okW b) (hl : a.length ≤ 1000000) (hl2 : b.length ≤ 1000000) (S : List Nat) (v u : Value) (w : World) (h : (LO.row v 136 1 (a.map encW)).holds w) (h' : SlOf wdT S w u b) (hS : ∀ x ∈ blkOf v, x ∈ S) : RowG 66 [v, u] 136 1 v ((unionB a b).map encW) w := by
 replace h' : SlOf wdT (blkOf v) w u b := h'.avoid fun x hx => .inl (hS x hx)
 have hun := h'.len
 refine calls_atB [.s (.c (.o 0 v)), .x u] [(0, .row v 136 1 (a.map encW))] (blkOf v) Tryz.func66 rfl rfl (Nat.le_of_ble_eq_true rfl) (WF.objs (enter_row h) ⟨⟨_, _, _, rfl⟩, trivial⟩ ⟨(nopW a).okH, trivial⟩) (enter_row h) fun B hB => ?_
 repeat refine zq ?_
 refine zr ?_; conv => whnf
 repeat refine zq ?_
 refine At.block ?_
 refine At.loopH (fun p' : Nat × Value => { N := Tryz.f66.ntmps, sl := [(0, some (.s (.c (.o 0 p'.2)))), (1, some (.x u))], gl := [], hp := [(0, .row p'.2 136 1 ((a ++ List.replicate p'.1 0).map encW))], S := (blkOf v), ws := w }) (fun p' : Nat × Value => p'.1 ≤ b.length - a.length) (fun p' : Nat × Value => b.length - a.length - p'.1)
  (fun w' hw => ⟨(0, v), Nat.zero_le _, Le.of rfl rfl ⟨rfl, rfl, trivial⟩, hw.keep [0] ?_ rfl rfl, ⟨⟨_, _, _, rfl⟩, trivial⟩, ⟨(nopW _).okH, trivial⟩⟩) ?_
 ·show [(0, LO.row v 136 1 _)] = [(0, LO.row v 136 1 _)]
  simp
 rintro ⟨k, vv⟩ hk
 simp only at hk ⊢
 repeat refine zq ?_
 refine zr ?_; conv => whnf
 refine ⟨rfl, ?_⟩; conv => whnf
 refine ⟨h'.sl, ?_⟩; conv => whnf
 repeat refine zq ?_
 refine At.cond rfl (fun hc => At.skip ?_) (fun hc => At.exit ?_)
 ·have hlt : a.length + k < b.length := by have := of_decide_eq_true hc; simp at this; omega
  repeat refine zq ?_
  refine At.block ?_
  repeat refine zq ?_
  refine zr ?_; conv => whnf
  refine ⟨rfl, ?_⟩; conv => whnf
  intro v8; conv => whnf
  refine ⟨rfl, ?_⟩; conv => whnf
  refine ⟨rfl, ?_⟩; conv => whnf
  refine ⟨⟨rfl, by simp; omega⟩, ?_⟩; conv => whnf
  intro v9; conv => whnf
  refine At.nextH fun w' hw => ⟨(k + 1, v9), by simp only; omega, by simp only; omega, Le.of rfl rfl ⟨rfl, rfl, trivial⟩, hw.keep [0] ?_ rfl rfl, ⟨⟨_, _, _, rfl⟩, trivial⟩, ⟨(nopW _).okH, trivial⟩⟩
  show [(0, LO.row v9 136 1 _)] = [(0, LO.row v9 136 1 _)]
  rw [List.replicate_succ', ← List.append_assoc, List.map_append]
  rfl
 ·have hge : b.length ≤ a.length + k := by have := of_decide_eq_false hc; simp at this; omega
  have hgr : a ++ List.replicate k 0 = growTo a b.length := by
   unfold growTo
   congr 2; omega
  rw [hgr]
  have hgl : b.length ≤ (growTo a b.length).length := by rw [grow_len]; omega
  have hgo := okW_grow ha b.length
  repeat refine zq ?_
  refine zr ?_; conv => whnf
  refine ⟨h'.sl, ?_⟩; conv => whnf
  repeat refine zq ?_
  refine At.block ?_
  refine At.loopH (fun j : Nat => { N := Tryz.f66.ntmps, sl := [(0, some (.s (.c (.o 0 vv)))), (15, some (.x u)), (16, some (.i b.length)), (17, some (.i j))], gl := [], hp := [(0, .row vv 136 1 ((orUpTo (growTo a b.length) b j).map encW))], S := (blkOf v), ws := w }) (fun j : Nat => j ≤ b.length) (fun j : Nat => b.length - j)
   (fun w' hw => ⟨0, Nat.zero_le _, Le.of rfl rfl ⟨rfl, rfl, congrArg (Value.int .i64) hun, rfl, trivial⟩, hw.keep [0] rfl rfl rfl, ⟨⟨_, _, _, rfl⟩, trivial⟩, ⟨(nopW _).okH, trivial⟩⟩) ?_
  intro j hj
  have hol := orUpTo_len (ws := growTo a b.length) (b := b) j
  repeat refine zq ?_
  refine zr ?_; conv => whnf
  repeat refine zq ?_
  refine At.cond rfl (fun hc => At.skip ?_) (fun hc => At.exit ?_)
  ·have hlt : j < b.length := by have := of_decide_eq_true hc; omega
   have hy := getD_someN hlt
   have hy64 := okW_get hb j
   have hx := getD_someN (xs := orUpTo (growTo a b.length) b j) (i := j) (by omega)
   have hx64 := okW_get (okW_or hgo hb j) j
   have hnx : orUpTo (growTo a b.length) b (j + 1) = (orUpTo (growTo a b.length) b j).set j ((orUpTo (growTo a b.length) b j).getD j 0 ||| b.getD j 0) := rfl
   generalize hye : b.getD j 0 = y at hy hy64 hnx
   generalize hxe : (orUpTo (growTo a b.length) b j).getD j 0 = x at hx hx64 hnx
   have hou : orU (x : Int) (y : Int) = ((x ||| y : Nat) : Int) := by unfold orU; rw [Int.toNat_natCast, Int.toNat_natCast]
   repeat refine zq ?_
   refine At.block ?_
   repeat refine zq ?_
   refine zr ?_; conv => whnf
   refine ⟨by omega, ?_⟩; conv => whnf
   refine ⟨by rw [hun]; omega, ?_⟩; conv => whnf
   refine ⟨encW y, fun w' hw => h'.load (n := 1) hw.fr hy rfl, ?_⟩; conv => whnf
   repeat refine zq ?_
   refine zr ?_; conv => whnf
   refine ⟨rfl, ?_⟩; conv => whnf
   refine ⟨by omega, ?_⟩; conv => whnf
   refine ⟨by rw [List.length_map]; omega, ?_⟩; conv => whnf
   refine ⟨encW x, ⟨rfl, rfl, by omega, by rw [Int.toNat_natCast, List.getElem?_map, hx]; rfl⟩, ?_⟩; conv => whnf
   refine ⟨⟨by omega, by omega⟩, ?_⟩; conv => whnf
   refine ⟨⟨by omega, by omega⟩, ?_⟩; conv => whnf
   refine ⟨rfl, ?_⟩; conv => whnf
   refine ⟨by omega, ?_⟩; conv => whnf
   refine ⟨by rw [List.length_map]; omega, ?_⟩; conv => whnf
   refine ⟨encW x, ⟨rfl, rfl, by omega, by rw [Int.toNat_natCast, List.getElem?_map, hx]; rfl⟩, ?_⟩; conv => whnf
   refine ⟨rfl, ?_⟩; conv => whnf
   repeat refine zq ?_
   refine zr ?_; conv => whnf
   refine ⟨⟨by omega, by omega⟩, ?_⟩; conv => whnf
   refine At.nextH fun w' hw => ⟨j + 1, by omega, by omega, Le.of rfl rfl ⟨rfl, rfl, rfl, rfl, trivial⟩, hw.keep [0] ?_ rfl rfl, ⟨⟨_, _, _, rfl⟩, trivial⟩, ⟨(nopW _).okH, trivial⟩⟩
   show [(0, LO.row vv 136 1 _)] = [(0, LO.row vv 136 1 _)]
   rw [hnx, List.map_set]
   show _ = [(0, LO.row vv 136 1 (((orUpTo (growTo a b.length) b j).map encW).set (j : Int).toNat [.x (.int .u64 (orU (x : Int) (y : Int)))]))]
   rw [hou, Int.toNat_natCast]
   rfl
  ·have hge : j = b.length := by have := of_decide_eq_false hc; omega
   subst hge
   repeat refine zq ?_
   refine zr ?_; conv => whnf
   repeat refine zq ?_
   refine At.ret (At.doneB tab_ok hB _ rfl fun w' hw => ⟨vv, rfl, hw.row (id := 0) rfl, hw.fr, fun y hy => hw.fresh (id := 0) rfl y hy⟩)
end Go.Proofs.YtdigebokbhmfaaaGreatDoor
namespace Go.Proofs.YtdigebokbhmfaaaGreatDoor
open Go.Vc Rt Go.Bs
set_option maxHeartbeats 1000000
def badKey (ks : List Int) (i : Nat) : Bool := (decide (ks.getD i 0 < 0) || decide (200 ≤ ks.getD i 0)) || (decide (0 < i) && decide (ks.getD i 0 ≤ ks.getD (i - 1) 0))
def keysOkS (ks : List Int) : Bool := (List.range ks.length).all fun i => !badKey ks i
def rightS (ks : List Int) (liars seed : Int) : Bool := if keysOkS ks then (((decide (0 ≤ liars) && decide (liars < ks.length)) && decide (3 * liars < ks.length)) && decide (0 ≤ seed)) && decide (seed ≤ 1099511627776) else false
theorem keysOkS_false {ks : List Int} {k : Nat} (hk : k < ks.length) (h : badKey ks k = true) : keysOkS ks = false := by
 unfold keysOkS; rw [List.all_eq_false]; exact ⟨k, List.mem_range.2 hk, by simp [h]⟩
theorem keysOkS_true {ks : List Int} (h : ∀ j, j < ks.length → badKey ks j = false) : keysOkS ks = true := by
 unfold keysOkS; rw [List.all_eq_true]; intro k hk; rw [h k (List.mem_range.1 hk)]; rfl
def encSt (k : Value) (liars seed : Int) : List CV := [.x k, .i liars, .i seed]
def vSt (k : Value) (liars seed : Int) : Value := .agg #[k, .int .i64 liars, .int .i64 seed]
theorem rightS_c (ks : List Int) (liars seed : Int) (S : List Nat) (v : Value) (w : World) (h : SlOf intT S w v ks) (hl : ks.length ≤ 1000000) : Ans Tryz.prog 51 [vSt v liars seed] (.b (rightS ks liars seed)) w := by
 replace h := h.avoid (S' := []) (fun b hb => by cases hb)
 have hln := h.len
 refine calls_plainB [.s (.agg (encSt v liars seed))] Tryz.func51 rfl rfl (Nat.le_of_ble_eq_true rfl) rfl fun B hB => ?_
 repeat refine zq ?_
 refine zr ?_; conv => whnf
 refine ⟨h.one, ?_⟩; conv => whnf
 intro b; conv => whnf
 repeat refine zq ?_
 refine zr ?_; conv => whnf
 refine ⟨h.sl, ?_⟩; conv => whnf
 repeat refine zq ?_
 refine At.block ?_
 refine At.loopH (fun k : Nat => { N := Tryz.f51.ntmps, sl := [(1, some (.s (.c (.p 0 b 0)))), (6, some (.x v)), (7, some (.i ks.length)), (8, some (.i k))], gl := [], hp := [(0, LO.box b 53 (encSt v liars seed))], S := [], ws := w }) (fun k : Nat => k ≤ ks.length ∧ ∀ j, j < k → badKey ks j = false) (fun k : Nat => ks.length - k)
  (fun w' hw => ⟨0, ⟨Nat.zero_le _, fun j hj => by omega⟩, Le.of rfl rfl ⟨rfl, rfl, congrArg (Value.int .i64) hln, rfl, trivial⟩, hw.keep [0] rfl rfl rfl, ⟨⟨_, _, rfl⟩, trivial⟩, trivial⟩) ?_
 rintro k ⟨hk, hall⟩
 repeat refine zq ?_
 refine zr ?_; conv => whnf
 repeat refine zq ?_
 refine At.cond rfl (fun hc => At.skip ?_) (fun hc => At.exit ?_)
 ·have hlt : k < ks.length := by have := of_decide_eq_true hc; omega
  have hx := getD_some hlt
  repeat refine zq ?_
  refine At.block ?_
  repeat refine zq ?_
  refine zr ?_; conv => whnf
  refine ⟨by omega, ?_⟩; conv => whnf
  refine ⟨by rw [hln]; omega, ?_⟩; conv => whnf
  refine ⟨[.i (ks.getD k 0)], fun w' hw => h.load (n := 1) hw.fr hx rfl, ?_⟩; conv => whnf
  repeat refine zq ?_
  refine zr ?_; conv => whnf
  refine ⟨by simp only [gimp]; intro h1 _; have := of_decide_eq_true h1; exact ⟨by omega, by omega⟩, ?_⟩; conv => whnf
  refine ⟨by simp only [gimp]; intro h1 _; have := of_decide_eq_true h1; omega, ?_⟩; conv => whnf
  refine ⟨by simp only [gimp]; intro h1 _; have := of_decide_eq_true h1; omega, ?_⟩; conv => whnf
  refine ⟨[.i (ks.getD (k - 1) 0)], by simp only [gimp]; intro h1 _ w' hw; have := of_decide_eq_true h1; exact h.loadI (n := 1) hw.fr (by omega) (by rw [← getD_some (by omega)]; congr 1; omega) rfl, ?_⟩; conv => whnf
  have eb : ((decide (ks.getD k 0 < 0) || decide (200 ≤ ks.getD k 0)) || (decide (0 < (k : Int)) && decide (ks.getD k 0 ≤ ks.getD (k - 1) 0))) = badKey ks k := by
   unfold badKey; rw [show decide (0 < (k : Int)) = decide (0 < k) by rw [decide_eq_decide]; omega]
  repeat refine zq ?_
  refine At.cond rfl (fun hq => ?_) (fun hq => At.skip ?_)
  ·have hB' : badKey ks k = true := by rw [← eb]; simpa only [bor, band] using hq
   repeat refine zq ?_
   refine zr ?_; conv => whnf
   repeat refine zq ?_
   refine At.ret (At.doneB tab_ok hB _ rfl fun w' hw => ⟨?_, hw.fr⟩)
   rw [rightS, if_neg (by rw [keysOkS_false hlt hB']; decide)]
  ·have hB' : badKey ks k = false := by rw [← eb]; simpa only [bor, band] using hq
   repeat refine zq ?_
   refine zr ?_; conv => whnf
   refine ⟨⟨by omega, by omega⟩, ?_⟩; conv => whnf
   refine At.nextH fun w' hw => ⟨k + 1, ⟨by omega, fun j hj => by rcases Nat.lt_or_ge j k with h' | h'; exact hall j h'; obtain rfl : j = k := (by omega); exact hB'⟩, by omega, Le.of rfl rfl ⟨rfl, rfl, rfl, rfl, trivial⟩, hw.keep [0] rfl rfl rfl, ⟨⟨_, _, rfl⟩, trivial⟩, trivial⟩
 ·have hge : k = ks.length := by have := of_decide_eq_false hc; omega
  subst hge
  repeat refine zq ?_
  refine zr ?_; conv => whnf
  refine ⟨by simp only [gimp]; intro _; exact h.sl, ?_⟩; conv => whnf
  refine ⟨by simp only [gimp]; intro h1; simp at h1; exact ⟨by omega, by omega⟩, ?_⟩; conv => whnf
  refine ⟨by simp only [gimp]; intro _; exact h.sl, ?_⟩; conv => whnf
  repeat refine zq ?_
  refine At.ret (At.doneB tab_ok hB _ rfl fun w' hw => ⟨?_, hw.fr⟩)
  rw [rightS, if_pos (keysOkS_true fun j hj => hall j hj)]
  simp only [RV.den, SV.den, CV.den, band, hln]
end Go.Proofs.YtdigebokbhmfaaaGreatDoor
namespace Go.Proofs.YtdigebokbhmfaaaGreatDoor
open Go.Vc Rt Go.Bs
end Go.Proofs.YtdigebokbhmfaaaGreatDoor
namespace Go.Proofs.YtdigebokbhmfaaaGreatDoor
open Go.Vc Rt Go.Bs
theorem indexF_c (xs : List Int) (S : List Nat) (v : Value) (w : World) (h : SlOf intT S w v xs) (g : Nat) (caps : Array Value) (p : Int → Bool) (hg : Body Tryz.prog g)
  (hf : ∀ x ∈ xs, ∀ w', Ext w w' → Ans Tryz.prog g (vI x :: caps.toList) (.b (p x)) w') : Ans Tryz.prog 67 [v, .func (.func g) #[] caps] (.i (idxOf p xs)) w := by
 replace h := h.avoid (S' := []) (fun b hb => by cases hb)
 have hsm := h.small
 refine calls_plainB [.x v, .x (.func (.func g) #[] caps)] Tryz.func67 rfl rfl (Nat.le_of_ble_eq_true rfl) rfl fun B hB => ?_
 repeat refine zq ?_
 refine zr ?_; conv => whnf
 repeat refine zq ?_
 refine zr ?_; conv => whnf
 refine ⟨h.sl, ?_⟩; conv => whnf
 repeat refine zq ?_
 refine At.block ?_
 refine At.loopF (fun k : Nat => { N := Tryz.f67.ntmps, sl := [(0, some (.x v)), (1, some (.x (.func (.func g) #[] caps))), (7, some (.i xs.length)), (8, some (.i k))], gl := [], hp := [], S := [], ws := w }) (fun k => k ≤ xs.length ∧ ∀ j y, j < k → xs[j]? = some y → p y = false) (fun k => xs.length - k)
  (fun w' hw => ⟨0, ⟨Nat.zero_le _, fun j y hj => by omega⟩, Le.of rfl rfl ⟨rfl, rfl, congrArg (Value.int .i64) h.len, rfl, trivial⟩, WF.plain rfl, hw.same rfl rfl rfl⟩) ?_
 intro k ⟨hk, hall⟩
 repeat refine zq ?_
 refine zr ?_; conv => whnf
 repeat refine zq ?_
 refine At.cond rfl (fun hc => At.skip ?_) (fun hc => At.exit ?_)
 ·have hlt : k < xs.length := by simpa using hc
  obtain ⟨x, hx⟩ : ∃ x, xs[k]? = some x := ⟨_, List.getElem?_eq_getElem hlt⟩
  repeat refine zq ?_
  refine At.block ?_
  repeat refine zq ?_
  refine zr ?_; conv => whnf
  repeat refine zq ?_
  refine zr ?_; conv => whnf
  refine ⟨by omega, ?_⟩; conv => whnf
  refine ⟨by rw [h.len]; omega, ?_⟩; conv => whnf
  refine ⟨[.i x], fun w' hw => h.load (n := 1) hw.fr hx rfl, ?_⟩; conv => whnf
  refine ans_call hg rfl (fun w' hw => hf x (List.mem_of_getElem? hx) w' hw.fr) ?_; conv => whnf
  repeat refine zq ?_
  refine At.cond rfl (fun hq => ?_) (fun hq => ?_)
  ·repeat refine zq ?_
   refine zr ?_; conv => whnf
   repeat refine zq ?_
   refine At.ret (At.doneB tab_ok hB _ rfl fun w' hw => ⟨?_, hw.fr⟩)
   rw [idx_some hx hq hall]
  ·refine At.skip ?_
   repeat refine zq ?_
   refine zr ?_; conv => whnf
   refine ⟨⟨by omega, by omega⟩, ?_⟩; conv => whnf
   refine At.next fun w' hw => ⟨k + 1, ⟨by omega, fun j y hj hy => ?_⟩, by omega, Le.of rfl rfl ⟨rfl, rfl, rfl, rfl, trivial⟩, WF.plain rfl, hw.keep [] rfl rfl rfl⟩
   rcases Nat.lt_or_ge j k with hj' | hj'
   ·exact hall j y hj' hy
   ·obtain rfl : j = k := by omega
    rw [hx] at hy; cases hy; exact hq
 ·have hge : k = xs.length := by simp at hc; omega
  subst hge
  repeat refine zq ?_
  refine zr ?_; conv => whnf
  repeat refine zq ?_
  refine At.ret (At.doneB tab_ok hB _ rfl fun w' hw => ⟨?_, hw.fr⟩)
  rw [idx_none (fun j y hy => hall j y (List.getElem?_eq_some_iff.1 hy).1 hy)]
theorem containsF_c (xs : List Int) (S : List Nat) (v : Value) (w : World) (h : SlOf intT S w v xs) (g : Nat) (caps : Array Value) (p : Int → Bool) (hg : Body Tryz.prog g)
  (hf : ∀ x ∈ xs, ∀ w', Ext w w' → Ans Tryz.prog g (vI x :: caps.toList) (.b (p x)) w') : Ans Tryz.prog 38 [v, .func (.func g) #[] caps] (.b (xs.any p)) w := by
 replace h := h.avoid (S' := []) (fun b hb => by cases hb)
 refine calls_plainB [.x v, .x (.func (.func g) #[] caps)] Tryz.func38 rfl rfl (Nat.le_of_ble_eq_true rfl) rfl fun B hB => ?_
 repeat refine zq ?_
 refine zr ?_; conv => whnf
 repeat refine zq ?_
 refine zr ?_; conv => whnf
 refine ans_call b67 rfl (fun w' hw => indexF_c xs [] v w' (h.fr hw.fr) g caps p hg (fun x hx w'' hx' => hf x hx w'' (hw.fr.trans hx'))) ?_; conv => whnf
 repeat refine zq ?_
 refine At.ret (At.doneB tab_ok hB _ rfl fun w' hw => ⟨?_, hw.fr⟩)
 rw [← idx_any]
end Go.Proofs.YtdigebokbhmfaaaGreatDoor
namespace Go.Proofs.YtdigebokbhmfaaaGreatDoor
open Go.Vc Rt Go.Bs
end Go.Proofs.YtdigebokbhmfaaaGreatDoor
namespace Go.Proofs.YtdigebokbhmfaaaGreatDoor
open Go.Vc Rt Go.Bs
end Go.Proofs.YtdigebokbhmfaaaGreatDoor
namespace Go.Proofs.YtdigebokbhmfaaaGreatDoor
open Go.Vc Rt Go.Bs
structure Nd where
 key : Int
 text : List UInt8
 mark : Int
 e : En
 level : Int
 past : List Nat
instance : Inhabited Nd := ⟨⟨0, [], 0, zeroE, 0, []⟩⟩
def hidx (N : List Nd) : List (Int × Int) := N.zipIdx.map fun p => (p.1.mark, (p.2 : Int))
def nodeAt (N : List Nd) (i : Int) : Nd := N.getD i.toNat default
def downB (N : List Nd) : List Int → List Nat → Bool → List Nat × Bool
 | [], bits, all => (bits, all)
 | m :: r, bits, all => match alook (hidx N) m with
  | none => downB N r bits false
  | some i => downB N r (setB (unionB bits (nodeAt N i).past) i.toNat) all
def levelB (N : List Nd) (knows : List Int) : Int := knows.foldl (fun l m => max l ((nodeAt N ((alook (hidx N) m).getD 0)).level + 1)) 0
def refB (N : List Nd) (past : List Nat) (ref : Int) : Bool :=
 match alook (hidx N) ref with
 | none => false
 | some i => testB past i.toNat
def addB (R : List SK) (N : List Nd) (k : Int) (t : List UInt8) (mk : Int) : List Nd × Int :=
 if !validR R k t mk then (N, 17) else
 if (readE t).2 ≠ 0 ∨ (readE t).1.author ≠ k then (N, 2) else
 if (alook (hidx N) mk).isSome then (N, 0) else
 if !(downB N (readE t).1.knows [] true).2 then (N, 19) else
 if ((readE t).1.ref ≠ -1 ∧ (readE t).1.kind ≠ 8) ∧ !refB N (downB N (readE t).1.knows [] true).1 (readE t).1.ref then (N, 19) else
 if 4000 ≤ N.length then (N, 6) else
 (N ++ [⟨k, t, mk, (readE t).1, levelB N (readE t).1.knows, (downB N (readE t).1.knows [] true).1⟩], 0)
def beforeB (N : List Nd) (a b : Int) : Bool :=
 match alook (hidx N) a, alook (hidx N) b with
 | some i, some k => testB (nodeAt N k).past i.toNat
 | _, _ => false
def encN (n : Nd) (k y s p : Value) : List CV := [.i n.key, .s n.text, .i n.mark] ++ encE n.e k y s ++ [.i n.level, .x p]
def ndT : Ty Nd where
 size := 18
 rel := fun S w n l => ∃ k y s p, l = encN n k y s p ∧ EnIn S w n.e k y s ∧ SlOf wdT S w p n.past
 len := fun ⟨k, y, s, p, h, _⟩ => by rw [h]; rfl
 fr := fun hf ⟨k, y, s, p, h, h1, h2⟩ => ⟨k, y, s, p, h, h1.fr hf, h2.fr hf⟩
 av := fun hs ⟨k, y, s, p, h, h1, h2⟩ => ⟨k, y, s, p, h, ⟨h1.k.avoid hs, h1.y.avoid hs, h1.s.avoid hs⟩, h2.avoid hs⟩
end Go.Proofs.YtdigebokbhmfaaaGreatDoor
namespace Go.Proofs.YtdigebokbhmfaaaGreatDoor
open Go.Vc Rt Go.Bs
theorem kl3 : KL Tryz.prog 3 (fun v => ∃ n, v = .int .i64 n) := KL.int u3
theorem vI_inj (a b : Int) (h : vI a = vI b) : a = b := by simpa [vI] using h
theorem um59 : Tryz.prog.underlying 79 = some (.map 3 3) := by kernel_rfl
abbrev NdV := Nd × Value × Value × Value × Value
def encM (p : NdV) : List CV := encN p.1 p.2.1 p.2.2.1 p.2.2.2.1 p.2.2.2.2
theorem nopM (M : List NdV) : NoP (M.map encM) := NoP.map (fun _ => rfl) M
def ndsM (M : List NdV) : List Nd := M.map (·.1)
structure NdIn (Bs : List Nat) (w : World) (p : NdV) : Prop where
 rk : (LO.row p.2.1 3 1 (p.1.e.knows.map encI)).holds w
 ry : (LO.row p.2.2.1 3 1 (p.1.e.keys.map encI)).holds w
 rs : (LO.row p.2.2.2.1 99 3 (p.1.e.spans.map encS)).holds w
 rp : (LO.row p.2.2.2.2 136 1 (p.1.past.map encW)).holds w
 bs : ∀ b, b ∈ blkOf p.2.1 ∨ b ∈ blkOf p.2.2.1 ∨ b ∈ blkOf p.2.2.2.1 ∨ b ∈ blkOf p.2.2.2.2 → b ∈ Bs
def relM (Bs : List Nat) (M : List NdV) (w : World) : Prop := ∀ p ∈ M, NdIn Bs w p
theorem row_agree {w w' : World} {v : Value} {E size : Nat} {L : List (List CV)} (h : (LO.row v E size L).holds w) (ha : ∀ b ∈ blkOf v, w'.heap[b]? = w.heap[b]?) : (LO.row v E size L).holds w' := by
 obtain ⟨⟨hlen, hv⟩, hL⟩ := h
 refine ⟨⟨hlen, ?_⟩, hL⟩
 rcases hv with h | ⟨g, o, cap, cur, rfl, hg, h⟩
 ·exact .inl h
 ·exact .inr ⟨g, o, cap, cur, rfl, (ha g (by simp [blkOf])).trans hg, h⟩
theorem NdIn.agree {Bs : List Nat} {w w' : World} {p : NdV} (h : NdIn Bs w p) (ha : ∀ b ∈ Bs, w'.heap[b]? = w.heap[b]?) : NdIn Bs w' p :=
 ⟨row_agree h.rk fun b hb => ha b (h.bs b (.inl hb)), row_agree h.ry fun b hb => ha b (h.bs b (.inr (.inl hb))), row_agree h.rs fun b hb => ha b (h.bs b (.inr (.inr (.inl hb)))), row_agree h.rp fun b hb => ha b (h.bs b (.inr (.inr (.inr hb)))), h.bs⟩
theorem NdIn.more {Bs Bs' : List Nat} {w : World} {p : NdV} (h : NdIn Bs w p) (hs : ∀ b ∈ Bs, b ∈ Bs') : NdIn Bs' w p := ⟨h.rk, h.ry, h.rs, h.rp, fun b hb => hs b (h.bs b hb)⟩
structure HistAt (w : World) (h rb : Nat) (v : Value) (m : Nat) (Bs : List Nat) (M : List NdV) : Prop where
 box : w.heap[h]? = some (.cells #[ptr rb, v, .map (some m)] 81 (0, 0))
 row : (LO.row v 86 18 (M.map encM)).holds w
 map : MapAt vI vI w m (hidx (ndsM M))
 rel : (LO.ab Bs (relM Bs M)).holds w
 dis : (h :: (blkOf v ++ (m :: nub Bs))).Nodup
end Go.Proofs.YtdigebokbhmfaaaGreatDoor
namespace Go.Proofs.YtdigebokbhmfaaaGreatDoor
open Go.Vc Rt Go.Bs
theorem histNew_c (rb : Nat) (w : World) : Calls Tryz.prog 19 #[ptr rb] w (fun e w' => ∃ h m, e = .returned (ptr h) ∧ HistAt w' h rb (.slice none 0 0) m [] [] ∧ w.heap.size ≤ h ∧ w.heap.size ≤ m ∧ Ext w w') := by
 refine calls_plainB [.x (ptr rb)] Tryz.func19 rfl rfl (Nat.le_of_ble_eq_true rfl) rfl fun B hB => ?_
 repeat refine zq ?_
 refine zr ?_; conv => whnf
 repeat refine zq ?_
 refine zr ?_; conv => whnf
 repeat refine zq ?_
 refine At.cond (t := false) rfl (fun hq => by cases hq) (fun _ => At.skip ?_)
 repeat refine zq ?_
 refine zr ?_; conv => whnf
 refine rawE_make vI vI ?_
 intro m; conv => whnf
 refine ⟨rfl, ?_⟩; conv => whnf
 refine ⟨rfl, ?_⟩; conv => whnf
 refine ⟨rfl, ?_⟩; conv => whnf
 refine ⟨rfl, ?_⟩; conv => whnf
 refine ⟨rfl, ?_⟩; conv => whnf
 intro h; conv => whnf
 repeat refine zq ?_
 refine At.ret (At.doneB tab_ok hB _ rfl fun w' hw => ?_)
 have hb := hw.box (id := 1) rfl
 have hm := mapO_at (hw.objs _ (look_mem (s := 0) rfl))
 have hd := hw.apart (i := 1) (j := 0) rfl rfl (by decide)
 have hne : h ≠ m := fun e => hd h (by simp [LO.blks]) (mem_nub.2 (by simp [e]))
 refine ⟨h, m, rfl, ⟨hb, nil_holds, hm, ⟨fun b hb => (by cases hb), fun w' _ p hp => by cases hp⟩, by simp [blkOf, nub, hne]⟩, ?_, ?_, hw.fr⟩
 ·exact (hw.fresh (id := 1) rfl h (by simp [LO.blks])).elim (fun h => by cases h) _root_.id
 ·exact (hw.fresh (id := 0) rfl m (mem_nub.2 (by simp))).elim (fun h => by cases h) _root_.id
end Go.Proofs.YtdigebokbhmfaaaGreatDoor
namespace Go.Proofs.YtdigebokbhmfaaaGreatDoor
open Go.Vc Rt Go.Bs
theorem hidx_spec {N : List Nd} {m i : Int} (h : alook (hidx N) m = some i) : ∃ (j : Nat) (n : Nd), i = (j : Int) ∧ N[j]? = some n ∧ n.mark = m ∧ nodeAt N i = n := by
 unfold alook at h
 cases hf : (hidx N).find? (fun p => decide (p.1 = m)) with
 | none => rw [hf] at h; cases h
 | some p =>
  rw [hf] at h
  have h1 : p.1 = m := by simpa using List.find?_some hf
  have h2 : p.2 = i := by simpa using h
  obtain ⟨q, hq, e⟩ := List.mem_map.1 (List.mem_of_find?_eq_some hf)
  obtain ⟨n, j⟩ := q
  have h3 := List.mem_zipIdx_iff_getElem?.1 hq
  subst e
  simp only at h1 h2 h3
  refine ⟨j, n, h2.symm, h3, h1, ?_⟩
  rw [← h2]; unfold nodeAt; simp [List.getD_eq_getElem?_getD, h3]
theorem mapAt_fr {K V : Type} [DecidableEq K] {eK : K → Value} {eV : V → Value} {w w' : World} {r : Nat} {L : List (K × V)} {S : List Nat} (h : MapAt eK eV w r L) (hf : Fr S w w') (hr : r ∉ S) : MapAt eK eV w' r L := by
 obtain ⟨es, c, h1, h2⟩ := h
 exact ⟨es, c, (hf.block r (Array.getElem?_eq_some_iff.1 h1).1 hr).trans h1, h2⟩
theorem mapAt_lt {K V : Type} [DecidableEq K] {eK : K → Value} {eV : V → Value} {w : World} {r : Nat} {L : List (K × V)} (h : MapAt eK eV w r L) : r < w.heap.size := by
 obtain ⟨es, c, h1, h2⟩ := h
 exact (Array.getElem?_eq_some_iff.1 h1).1
structure NOk (N : List Nd) : Prop where
 len : N.length ≤ 4000
 nd : ∀ (i : Nat) n, N[i]? = some n → okW n.past ∧ n.past.length ≤ i / 64 + 1 ∧ 0 ≤ n.level ∧ n.level ≤ i ∧ EnR n.e ∧ okSK (n.key, n.text) ∧ n.text.length ≤ 900000 ∧ iR n.mark
def hs (h : Nat) : Value := .slice (some ⟨h, 0, none⟩) 1 1
def encHB (p : Nat × Value × Nat) : List CV := [.x (ptr p.1), .x p.2.1, .x (.map (some p.2.2))]
def hbT : Ty (Nat × Value × Nat) := flat 3 encHB (fun _ => rfl)
structure HR (S : List Nat) (w : World) (h rb : Nat) (N : List Nd) : Prop where
 out : ∃ v m, SlOf hbT S w (hs h) [(rb, v, m)] ∧ SlOf ndT S w v N ∧ MapAt vI vI w m (hidx N) ∧ m ∉ S
section
variable {S S' : List Nat} {w w' : World} {h rb : Nat} {N : List Nd}
theorem HR.fr (H : HR S w h rb N) (hf : Fr S w w') : HR S w' h rb N := by
 obtain ⟨v, m, h1, h2, h3, h4⟩ := H.out
 exact ⟨v, m, h1.fr hf, h2.fr hf, mapAt_fr h3 hf h4, h4⟩
theorem HR.avoid (H : HR S w h rb N) (hs : ∀ b ∈ S', b ∈ S ∨ w.heap.size ≤ b) : HR S' w h rb N := by
 obtain ⟨v, m, h1, h2, h3, h4⟩ := H.out
 exact ⟨v, m, h1.avoid hs, h2.avoid hs, h3, fun hm => (hs m hm).elim h4 (fun h => by have := mapAt_lt h3; omega)⟩
theorem HR.nilS (H : HR S w h rb N) : HR [] w h rb N := H.avoid fun b hb => by cases hb
theorem HR.ext (H : HR S w h rb N) (hf : Ext w w') : HR S w' h rb N := H.fr (hf.fr S)
end
theorem hsize {w : World} {S : List Nat} {h : Nat} {xs : List (Nat × Value × Nat)} (hb : SlOf hbT S w (hs h) xs) (hx : 0 < xs.length) : h ∉ S ∧ h < w.heap.size := hb.av _ _ _ rfl hx
theorem _root_.Go.Vc.Holds.liftH {st : St} {w : World} {h rb : Nat} {N : List Nd} (hw : Holds st w) (H : HR st.S st.ws h rb N) : HR st.blks w h rb N := by
 have h1 := H.avoid (S' := st.S ++ st.blks) (fun b hb => (List.mem_append.1 hb).elim .inl (fun hb => hw.own b hb))
 have h2 := h1.fr (hw.fr.mono fun k hk => .inl (List.mem_append.2 (.inl hk)))
 exact h2.avoid fun b hb => .inl (List.mem_append.2 (.inr hb))
theorem calls_e {P : Program} {f : FuncId} {fn : Func} {c : Code} {w : World} {R : Ending → World → Prop} (l : List RV) {args : Array Value}
  (hf : P.funcs[f]? = some fn) (hb : fn.body = some c) (ha : args = (l.map RV.den).toArray) (hn : l.length ≤ fn.ntmps) (hs : slotsOk [] (slots 0 l))
  (h : ∀ B : Exit → Act → World → Prop, B = bodyPost P fn R → At (St.enter fn.ntmps l [] [] w) (c.wp P B)) : Calls P f args w R :=
 calls_atB l [] [] hf hb ha hn (WF.objs holds_enter hs trivial) holds_enter h
theorem rawQ_h {st : St} {dst : Option Nat} {ty : TypeId} {pos : String} {after : Array Edge} {guard : Option (Nat × Bool)} {keys : Keys} {x i : Operand} {m : Nat} {N : List Nd} {mk : Int}
  (hx : opv st keys x = some (.s (.c (.x (.map (some m)))))) (hi : opv st keys i = some (.i mk)) (hm : ∀ w, Holds st w → MapAt vI vI w m (hidx N)) :
  RawQ Tryz.prog st keys { dst := dst, op := .lookup 79 x i true, type := ty, pos := pos, after := after, guard := guard } (.tup [.c (.i ((alook (hidx N) mk).getD 0)), .c (.b (alook (hidx N) mk).isSome)]) :=
 rawQ_lookupI (key := mk) kl3 ⟨mk, rfl⟩ (fun p _ => ⟨p.1, rfl⟩) vI_inj um59 hx hi rfl hm
theorem has_r (h rb : Nat) (N : List Nd) (mk : Int) (w : World) (H : HR [] w h rb N) : Ans Tryz.prog 15 [ptr h, vI mk] (.b (alook (hidx N) mk).isSome) w := by
 obtain ⟨v, m, hb, hv, hm, _⟩ := H.out
 refine calls_e [.s (.c (.e (hs h) 3 0 0)), .i mk] Tryz.func15 rfl rfl (Nat.le_of_ble_eq_true rfl) ⟨⟨_, _, _, rfl⟩, trivial⟩ fun B hB => ?_
 repeat refine zq ?_
 refine zr ?_; conv => whnf
 repeat refine zq ?_
 refine zr ?_; conv => whnf
 refine ⟨[.x (.map (some m))], fun w' hw => hb.load (n := 1) (i := 0) (off := 2) hw.fr rfl rfl, ?_⟩; conv => whnf
 refine ⟨.tup [.c (.i ((alook (hidx N) mk).getD 0)), .c (.b (alook (hidx N) mk).isSome)], gimp_of (rawQ_h rfl rfl (fun w' hw => mapAt_fr hm hw.fr nilS)), ?_⟩; conv => whnf
 repeat refine zq ?_
 refine zr ?_; conv => whnf
 repeat refine zq ?_
 refine At.ret (At.doneB tab_ok hB _ rfl fun w' hw => ⟨rfl, hw.fr⟩)
theorem before_r (h rb : Nat) (N : List Nd) (hN : NOk N) (a b : Int) (w : World) (H : HR [] w h rb N) : Ans Tryz.prog 14 [ptr h, vI a, vI b] (.b (beforeB N a b)) w := by
 obtain ⟨v, m, hb, hv, hm, _⟩ := H.out
 have hvl := hv.len
 have hNl := hN.len
 refine calls_e [.s (.c (.e (hs h) 3 0 0)), .i a, .i b] Tryz.func14 rfl rfl (Nat.le_of_ble_eq_true rfl) ⟨⟨_, _, _, rfl⟩, trivial⟩ fun B hB => ?_
 repeat refine zq ?_
 refine zr ?_; conv => whnf
 repeat refine zq ?_
 refine zr ?_; conv => whnf
 refine ⟨[.x (.map (some m))], fun w' hw => hb.load (n := 1) (i := 0) (off := 2) hw.fr rfl rfl, ?_⟩; conv => whnf
 refine ⟨.tup [.c (.i ((alook (hidx N) a).getD 0)), .c (.b (alook (hidx N) a).isSome)], gimp_of (rawQ_h rfl rfl (fun w' hw => mapAt_fr hm hw.fr nilS)), ?_⟩; conv => whnf
 repeat refine zq ?_
 refine zr ?_; conv => whnf
 refine ⟨[.x (.map (some m))], fun w' hw => hb.load (n := 1) (i := 0) (off := 2) hw.fr rfl rfl, ?_⟩; conv => whnf
 refine ⟨.tup [.c (.i ((alook (hidx N) b).getD 0)), .c (.b (alook (hidx N) b).isSome)], gimp_of (rawQ_h rfl rfl (fun w' hw => mapAt_fr hm hw.fr nilS)), ?_⟩; conv => whnf
 cases hal : alook (hidx N) a with
 | none =>
  repeat refine zq ?_
  refine At.regionG tab_ok ?_; conv => whnf
  repeat refine zq ?_
  refine At.ret (At.doneB tab_ok hB _ rfl fun w' hw => ⟨by simp [beforeB, hal], hw.fr⟩)
 | some i =>
  cases hbl : alook (hidx N) b with
  | none =>
   repeat refine zq ?_
   refine At.regionG tab_ok ?_; conv => whnf
   repeat refine zq ?_
   refine At.ret (At.doneB tab_ok hB _ rfl fun w' hw => ⟨by simp [beforeB, hal, hbl], hw.fr⟩)
  | some k =>
   obtain ⟨i, n, rfl, hi, _, hni⟩ := hidx_spec hal
   obtain ⟨k, n2, rfl, hk, _, hnk⟩ := hidx_spec hbl
   have hil := (List.getElem?_eq_some_iff.1 hi).1
   have hkl := (List.getElem?_eq_some_iff.1 hk).1
   obtain ⟨_, ⟨q1, q2, q3, p, rfl, _, hp⟩, hc2⟩ := hv.at hk
   repeat refine zq ?_
   refine At.regionG tab_ok ?_; conv => whnf
   refine ⟨[.x v], fun w' hw => hb.load (n := 1) (i := 0) (off := 1) hw.fr rfl rfl, ?_⟩; conv => whnf
   refine ⟨by simp only [Option.getD_some]; omega, ?_⟩; conv => whnf
   refine ⟨by simp only [Option.getD_some]; omega, ?_⟩; conv => whnf
   refine ⟨[.x p], fun w' hw => (hc2 w' hw.fr).part (n := 1) rfl, ?_⟩; conv => whnf
   refine ans_call b36 rfl (fun w' hw => test_c n2.past (hN.nd k n2 hk).1 i [] p w' (hp.fr hw.fr) (by omega)) ?_; conv => whnf
   repeat refine zq ?_
   refine At.ret (At.doneB tab_ok hB _ rfl fun w' hw => ⟨by simp only [beforeB, hal, hbl, hnk, Int.toNat_natCast]; rfl, hw.fr⟩)
end Go.Proofs.YtdigebokbhmfaaaGreatDoor
namespace Go.Proofs.YtdigebokbhmfaaaGreatDoor
open Go.Vc Rt Go.Bs
theorem unionB_len (a b : List Nat) : (unionB a b).length = max a.length b.length := by
 unfold unionB
 rw [orUpTo_len, grow_len]
theorem setB_len (ws : List Nat) (i : Nat) : (setB ws i).length = max ws.length (i / 64 + 1) := by
 unfold setB
 rw [List.length_set, grow_len]
theorem down_step {N : List Nd} {m : Int} {r : List Int} {bits : List Nat} {all : Bool} : downB N (m :: r) bits all = match alook (hidx N) m with
  | none => downB N r bits false
  | some i => downB N r (setB (unionB bits (nodeAt N i).past) i.toNat) all := rfl
theorem down_ok {N : List Nd} (hN : NOk N) : ∀ (marks : List Int) (bits : List Nat) (all : Bool), okW bits → bits.length ≤ N.length / 64 + 1 → okW (downB N marks bits all).1 ∧ (downB N marks bits all).1.length ≤ N.length / 64 + 1
 | [], bits, all, h1, h2 => ⟨h1, h2⟩
 | m :: r, bits, all, h1, h2 => by
  rw [down_step]
  cases hal : alook (hidx N) m with
  | none => exact down_ok hN r _ _ h1 h2
  | some i =>
   obtain ⟨j, n, rfl, hj, _, hnj⟩ := hidx_spec hal
   have hjl := (List.getElem?_eq_some_iff.1 hj).1
   obtain ⟨q1, q2, _⟩ := hN.nd j n hj
   simp only [hnj, Int.toNat_natCast]
   refine down_ok hN r _ _ (okW_setB (okW_union h1 q1) j) ?_
   rw [setB_len, unionB_len]; omega
theorem down_r (h rb : Nat) (N : List Nd) (hN : NOk N) (marks : List Int) (mv : Value) (w : World) (H : HR [] w h rb N) (hm : SlOf intT [] w mv marks) (hml : marks.length ≤ 1000000) :
  AnsR Tryz.prog 35 [ptr h, mv] [.row 136 1 ((downB N marks [] true).1.map encW), .p (.c (.b (downB N marks [] true).2))] w := by
 obtain ⟨v, m, hb, hv, hmp, _⟩ := H.out
 have hvl := hv.len
 have hNl := hN.len
 have hln := hm.len
 refine calls_e [.s (.c (.e (hs h) 3 0 0)), .x mv] Tryz.func35 rfl rfl (Nat.le_of_ble_eq_true rfl) ⟨⟨_, _, _, rfl⟩, trivial⟩ fun B hB => ?_
 repeat refine zq ?_
 refine zr ?_; conv => whnf
 repeat refine zq ?_
 refine zr ?_; conv => whnf
 repeat refine zq ?_
 refine zr ?_; conv => whnf
 repeat refine zq ?_
 refine zr ?_; conv => whnf
 refine ⟨hm.sl, ?_⟩; conv => whnf
 repeat refine zq ?_
 refine At.block ?_
 refine At.loopH (fun p' : Nat × List Nat × Bool × Value => { N := Tryz.f35.ntmps, sl := [(0, some (.s (.c (.e (hs h) 3 0 0)))), (6, some (.s (.c (.o 0 p'.2.2.2)))), (7, some (.b p'.2.2.1)), (12, some (.x mv)), (13, some (.i marks.length)), (14, some (.i p'.1))], gl := [], hp := [(0, .row p'.2.2.2 136 1 (p'.2.1.map encW))], S := [], ws := w }) (fun p' : Nat × List Nat × Bool × Value => p'.1 ≤ marks.length ∧ okW p'.2.1 ∧ p'.2.1.length ≤ N.length / 64 + 1 ∧ downB N (marks.drop p'.1) p'.2.1 p'.2.2.1 = downB N marks [] true) (fun p' : Nat × List Nat × Bool × Value => marks.length - p'.1)
  (fun w' hw => ⟨(0, [], true, .slice none 0 0), ⟨Nat.zero_le _, (fun x hx => by cases hx), by simp, rfl⟩, Le.of rfl rfl ⟨rfl, rfl, rfl, rfl, congrArg (Value.int .i64) hln, rfl, trivial⟩, hw.nil rfl rfl rfl, ⟨⟨_, _, _, rfl⟩, ⟨_, _, _, rfl⟩, trivial⟩, ⟨(nopW _).okH, trivial⟩⟩) ?_
 rintro ⟨k, bits, all, vv⟩ ⟨hk, hbo, hbl, hinv⟩
 simp only at hk hbo hbl hinv ⊢
 repeat refine zq ?_
 refine zr ?_; conv => whnf
 repeat refine zq ?_
 refine At.cond rfl (fun hc => At.skip ?_) (fun hc => At.exit ?_)
 ·have hlt : k < marks.length := by have := of_decide_eq_true hc; omega
  obtain ⟨x, hx⟩ : ∃ x, marks[k]? = some x := ⟨_, List.getElem?_eq_getElem hlt⟩
  have hlt : k < marks.length := by have := of_decide_eq_true hc; omega
  have hdr : marks.drop k = x :: marks.drop (k + 1) := by
   rw [List.drop_eq_getElem_cons hlt]
   rw [List.getElem?_eq_getElem hlt] at hx
   cases hx; rfl
  rw [hdr, down_step] at hinv
  repeat refine zq ?_
  refine At.block ?_
  repeat refine zq ?_
  refine zr ?_; conv => whnf
  refine ⟨by omega, ?_⟩; conv => whnf
  refine ⟨by omega, ?_⟩; conv => whnf
  refine ⟨[.i x], fun w' hw => hm.load (n := 1) hw.fr hx rfl, ?_⟩; conv => whnf
  repeat refine zq ?_
  refine zr ?_; conv => whnf
  refine ⟨[.x (.map (some m))], fun w' hw => hb.load (n := 1) (i := 0) (off := 2) hw.fr rfl rfl, ?_⟩; conv => whnf
  refine ⟨.tup [.c (.i ((alook (hidx N) x).getD 0)), .c (.b (alook (hidx N) x).isSome)], gimp_of (rawQ_h rfl rfl (fun w' hw => mapAt_fr hmp hw.fr nilS)), ?_⟩; conv => whnf
  repeat refine zq ?_
  refine zr ?_; conv => whnf
  cases hal : alook (hidx N) x with
  | none =>
   rw [hal] at hinv
   simp only at hinv
   repeat refine zq ?_
   refine At.cond (t := true) rfl (fun _ => ?_) (fun hq => by cases hq)
   repeat refine zq ?_
   refine zr ?_; conv => whnf
   refine At.exit ?_
   repeat refine zq ?_
   refine zr ?_; conv => whnf
   refine ⟨⟨by omega, by omega⟩, ?_⟩; conv => whnf
   refine At.nextH fun w' hw => ⟨(k + 1, bits, false, vv), ⟨by simp only; omega, hbo, hbl, hinv⟩, by simp only; omega, Le.of rfl rfl ⟨rfl, rfl, rfl, rfl, rfl, rfl, trivial⟩, hw.keep [0] rfl rfl rfl, ⟨⟨_, _, _, rfl⟩, ⟨_, _, _, rfl⟩, trivial⟩, ⟨(nopW _).okH, trivial⟩⟩
  | some i =>
   rw [hal] at hinv
   obtain ⟨j, n, rfl, hj, _, hnj⟩ := hidx_spec hal
   have hjl := (List.getElem?_eq_some_iff.1 hj).1
   obtain ⟨q1, q2, _⟩ := hN.nd j n hj
   simp only [hnj, Int.toNat_natCast] at hinv
   obtain ⟨_, ⟨y1, y2, y3, p, rfl, _, hp⟩, hc2⟩ := hv.at hj
   have hul := unionB_len bits n.past
   have hsl := setB_len (unionB bits n.past) j
   repeat refine zq ?_
   refine At.cond (t := false) rfl (fun hq => by cases hq) (fun _ => At.skip ?_)
   repeat refine zq ?_
   refine zr ?_; conv => whnf
   refine ⟨[.x v], fun w' hw => hb.load (n := 1) (i := 0) (off := 1) hw.fr rfl rfl, ?_⟩; conv => whnf
   refine ⟨by simp only [Option.getD_some]; omega, ?_⟩; conv => whnf
   refine ⟨by simp only [Option.getD_some]; omega, ?_⟩; conv => whnf
   refine ⟨[.x p], fun w' hw => (hc2 w' hw.fr).part (n := 1) rfl, ?_⟩; conv => whnf
   refine rowG_call (id := 0) b66 rfl (nopW _) (fun w' hw => union_c bits n.past hbo q1 (by omega) (by omega) _ vv p w' (hw.row (id := 0) rfl) (hw.lift hp) (fun y hy => by simpa [St.blks, LO.blks] using hy)) ?_
   intro v1; conv => whnf
   refine rowG_call (id := 0) b65 rfl (nopW _) (fun w' hw => set_c (unionB bits n.past) (okW_union hbo q1) (by omega) j (by omega) v1 w' (hw.row (id := 0) rfl)) ?_
   intro v2; conv => whnf
   repeat refine zq ?_
   refine zr ?_; conv => whnf
   refine ⟨⟨by omega, by omega⟩, ?_⟩; conv => whnf
   refine At.nextH fun w' hw => ⟨(k + 1, setB (unionB bits n.past) j, all, v2), ⟨by simp only; omega, okW_setB (okW_union hbo q1) j, by simp only; omega, hinv⟩, by simp only; omega, Le.of rfl rfl ⟨rfl, rfl, rfl, rfl, rfl, rfl, trivial⟩, hw.keep [0] rfl rfl rfl, ⟨⟨_, _, _, rfl⟩, ⟨_, _, _, rfl⟩, trivial⟩, ⟨(nopW _).okH, trivial⟩⟩
 ·have hge : k = marks.length := by have := of_decide_eq_false hc; omega
  subst hge
  rw [List.drop_length] at hinv
  repeat refine zq ?_
  refine zr ?_; conv => whnf
  repeat refine zq ?_
  refine At.ret (At.doneB tab_ok hB _ rfl fun w' hw => ?_)
  rw [← hinv]
  exact ⟨[vv], rfl, ⟨hw.row (id := 0) rfl, fun b hb => (hw.fresh (id := 0) rfl b hb).elim (fun h => by cases h) _root_.id, fun u hu => (by cases hu), rfl⟩, hw.fr⟩
end Go.Proofs.YtdigebokbhmfaaaGreatDoor
namespace Go.Proofs.YtdigebokbhmfaaaGreatDoor
open Go.Vc Rt Go.Bs
theorem cloneI_c (xs : List Int) (S : List Nat) (v : Value) (w : World) (h : SlOf intT S w v xs) (hB : xs.length ≤ 1000000) : AnsR Tryz.prog 45 [v] [.row 3 1 (xs.map encI)] w := by
 replace h := h.avoid (S' := []) (fun b hb => by cases hb)
 refine calls_plainB [.x v] Tryz.func45 rfl rfl (Nat.le_of_ble_eq_true rfl) rfl fun B hB => ?_
 repeat refine zq ?_
 refine zr ?_; conv => whnf
 repeat refine zq ?_
 refine zr ?_; conv => whnf
 refine ⟨h.sl, ?_⟩; conv => whnf
 repeat refine zq ?_
 refine At.cond rfl (fun hq => ?_) (fun hq => ?_)
 ·have hx : xs = [] := by
   obtain ⟨a, n, c, rfl, hnil, _⟩ := h.sl
   have hl := h.len
   cases a with
   | none => simp [slen] at hl; exact List.eq_nil_of_length_eq_zero (by omega)
   | some a => simp [isNilS] at hq
  subst hx
  repeat refine zq ?_
  refine zr ?_; conv => whnf
  repeat refine zq ?_
  refine At.ret (At.doneB tab_ok hB _ rfl fun w' hw => ansR_nil hw rfl rfl)
 ·refine At.skip ?_
  repeat refine zq ?_
  refine zr ?_; conv => whnf
  intro v1; conv => whnf
  refine ⟨xs.map encI, ⟨fun w' hw => (h.fr hw.fr).src (fun _ => rfl), nopI xs⟩, ?_⟩; conv => whnf
  refine ⟨⟨rfl, by simp; omega⟩, ?_⟩; conv => whnf
  intro v2; conv => whnf
  repeat refine zq ?_
  refine At.ret (At.doneB tab_ok hB _ rfl fun w' hw => ansR_row (id := 0) hw rfl rfl rfl)
def entB (N : List Nd) (mk : Int) : En :=
 match alook (hidx N) mk with
 | none => zeroE
 | some i => (nodeAt N i).e
abbrev EntryF (h : Nat) (N : List Nd) (mk : Int) (w : World) : Prop :=
 Calls Tryz.prog 13 #[ptr h, vI mk] w (fun e w' => ∃ k y s : Value, e = .returned (.tuple #[vE (entB N mk) k y s, .bool (alook (hidx N) mk).isSome]) ∧ Rows3 (entB N mk) w.heap.size w' k y s ∧ Ext w w')
theorem entry_r (h rb : Nat) (N : List Nd) (hN : NOk N) (mk : Int) (w : World) (H : HR [] w h rb N) : EntryF h N mk w := by
 obtain ⟨v, m, hb, hv, hm, _⟩ := H.out
 have hvl := hv.len
 have hNl := hN.len
 refine calls_e [.s (.c (.e (hs h) 3 0 0)), .i mk] Tryz.func13 rfl rfl (Nat.le_of_ble_eq_true rfl) ⟨⟨_, _, _, rfl⟩, trivial⟩ fun B hB => ?_
 repeat refine zq ?_
 refine zr ?_; conv => whnf
 intro b4; conv => whnf
 repeat refine zq ?_
 refine zr ?_; conv => whnf
 refine ⟨[.x (.map (some m))], fun w' hw => hb.load (n := 1) (i := 0) (off := 2) hw.fr rfl rfl, ?_⟩; conv => whnf
 refine ⟨.tup [.c (.i ((alook (hidx N) mk).getD 0)), .c (.b (alook (hidx N) mk).isSome)], gimp_of (rawQ_h rfl rfl (fun w' hw => mapAt_fr hm hw.fr nilS)), ?_⟩; conv => whnf
 repeat refine zq ?_
 refine zr ?_; conv => whnf
 cases hal : alook (hidx N) mk with
 | none =>
  have he : entB N mk = zeroE := by simp only [entB, hal]
  repeat refine zq ?_
  refine At.cond (t := true) rfl (fun _ => ?_) (fun hq => by cases hq)
  repeat refine zq ?_
  refine zr ?_; conv => whnf
  refine ⟨rfl, ?_⟩; conv => whnf
  refine ⟨rfl, ?_⟩; conv => whnf
  refine ⟨rfl, ?_⟩; conv => whnf
  repeat refine zq ?_
  refine At.ret (At.doneB tab_ok hB _ rfl fun w' hw => ?_)
  rw [he, hal]
  exact ⟨.slice none 0 0, .slice none 0 0, .slice none 0 0, rfl, ⟨nil_holds, nil_holds, nil_holds, by simp [blkOf], by simp [blkOf], by simp [blkOf], by simp [blkOf]⟩, hw.fr⟩
 | some i =>
  obtain ⟨i, n, rfl, hi, _, hni⟩ := hidx_spec hal
  have he : entB N mk = n.e := by simp only [entB, hal, hni]
  have hil := (List.getElem?_eq_some_iff.1 hi).1
  obtain ⟨_, _, _, _, hER, _⟩ := hN.nd i n hi
  have hlk := hER.lk
  have hly := hER.ly
  have hls := hER.ls
  obtain ⟨_, ⟨k1, y1, s1, p, rfl, hin, _⟩, hc2⟩ := hv.at hi
  repeat refine zq ?_
  refine At.cond (t := false) rfl (fun hq => by cases hq) (fun _ => At.skip ?_)
  repeat refine zq ?_
  refine zr ?_; conv => whnf
  refine ⟨[.x v], fun w' hw => hb.load (n := 1) (i := 0) (off := 1) hw.fr rfl rfl, ?_⟩; conv => whnf
  refine ⟨by simp only [Option.getD_some]; omega, ?_⟩; conv => whnf
  refine ⟨by simp only [Option.getD_some]; omega, ?_⟩; conv => whnf
  refine ⟨encE n.e k1 y1 s1, fun w' hw => (hc2 w' hw.fr).part (n := 13) rfl, ?_⟩; conv => whnf
  intro b8; conv => whnf
  refine ⟨hin.k.one, ?_⟩; conv => whnf
  refine ⟨hin.y.one, ?_⟩; conv => whnf
  refine ⟨hin.s.one, ?_⟩; conv => whnf
  repeat refine zq ?_
  refine At.planG tab_ok mixed [] (.take 0 (.take 3 (.take 6 (.br 1 (.br 2 (.br 4 (.br 5 (.br 7 (.take 9 (.br 8 (.br 10 (.take 11 (.br 12 (.take 13 (.br 14 (.done) (.nob))) (.nob))) (.nob)) (.nob))) (.nob)) (.br 7 (.take 9 (.br 5 (.br 8 (.br 10 (.take 11 (.br 12 (.take 13 (.br 14 (.done) (.nob))) (.nob))) (.nob)) (.nob)) (.nob))) (.nob))) (.br 7 (.br 4 (.take 9 (.br 5 (.br 8 (.br 10 (.take 11 (.br 12 (.take 13 (.br 14 (.done) (.nob))) (.nob))) (.nob)) (.nob)) (.nob))) (.nob)) (.nob))) (.br 4 (.br 2 (.br 5 (.br 7 (.take 9 (.br 8 (.br 10 (.take 11 (.br 12 (.take 13 (.br 14 (.done) (.nob))) (.nob))) (.nob)) (.nob))) (.nob)) (.br 7 (.take 9 (.br 5 (.br 8 (.br 10 (.take 11 (.br 12 (.take 13 (.br 14 (.done) (.nob))) (.nob))) (.nob)) (.nob)) (.nob))) (.nob))) (.br 7 (.br 2 (.take 9 (.br 5 (.br 8 (.br 10 (.take 11 (.br 12 (.take 13 (.br 14 (.done) (.nob))) (.nob))) (.nob)) (.nob)) (.nob))) (.nob)) (.nob))) (.br 7 (.br 2 (.br 4 (.take 9 (.br 5 (.br 8 (.br 10 (.take 11 (.br 12 (.take 13 (.br 14 (.done) (.nob))) (.nob))) (.nob)) (.nob)) (.nob))) (.nob)) (.br 4 (.br 2 (.take 9 (.br 5 (.br 8 (.br 10 (.take 11 (.br 12 (.take 13 (.br 14 (.done) (.nob))) (.nob))) (.nob)) (.nob)) (.nob))) (.nob)) (.nob))) (.nob)))) (.br 4 (.br 1 (.br 2 (.br 5 (.br 7 (.take 9 (.br 8 (.br 10 (.take 11 (.br 12 (.take 13 (.br 14 (.done) (.nob))) (.nob))) (.nob)) (.nob))) (.nob)) (.br 7 (.take 9 (.br 5 (.br 8 (.br 10 (.take 11 (.br 12 (.take 13 (.br 14 (.done) (.nob))) (.nob))) (.nob)) (.nob)) (.nob))) (.nob))) (.br 7 (.br 2 (.take 9 (.br 5 (.br 8 (.br 10 (.take 11 (.br 12 (.take 13 (.br 14 (.done) (.nob))) (.nob))) (.nob)) (.nob)) (.nob))) (.nob)) (.nob))) (.br 7 (.br 1 (.br 2 (.take 9 (.br 5 (.br 8 (.br 10 (.take 11 (.br 12 (.take 13 (.br 14 (.done) (.nob))) (.nob))) (.nob)) (.nob)) (.nob))) (.nob)) (.nob)) (.nob))) (.br 7 (.br 1 (.br 2 (.br 4 (.take 9 (.br 5 (.br 8 (.br 10 (.take 11 (.br 12 (.take 13 (.br 14 (.done) (.nob))) (.nob))) (.nob)) (.nob)) (.nob))) (.nob)) (.br 4 (.br 2 (.take 9 (.br 5 (.br 8 (.br 10 (.take 11 (.br 12 (.take 13 (.br 14 (.done) (.nob))) (.nob))) (.nob)) (.nob)) (.nob))) (.nob)) (.nob))) (.br 4 (.br 1 (.br 2 (.take 9 (.br 5 (.br 8 (.br 10 (.take 11 (.br 12 (.take 13 (.br 14 (.done) (.nob))) (.nob))) (.nob)) (.nob)) (.nob))) (.nob)) (.nob)) (.nob))) (.nob))))))) (by kernel_rfl) (by kernel_rfl) trivial ?_; conv => whnf
  refine ⟨?_, ?_, ?_, trivial⟩
  ·conv => whnf
   refine ⟨⟨trivial, fun w' hw => hw.fr⟩, ?_⟩; conv => whnf
   refine ⟨?_, ?_, ?_, trivial⟩
   ·conv => whnf
    refine ansR_call b45 (rd1 (nopI _)) (fun w' hw => cloneI_c n.e.knows [] k1 w' (hin.k.fr hw.fr) hlk) ?_
    intro k2; conv => whnf
    refine ⟨⟨trivial, fun w' hw => hw.fr⟩, ?_⟩; conv => whnf
    refine ⟨?_, ?_, trivial⟩
    ·conv => whnf
     refine ⟨⟨trivial, fun w' hw => hw.fr⟩, ?_⟩; conv => whnf
     refine ⟨?_, ?_, trivial⟩
     ·conv => whnf
      refine ansR_call b45 (rd1 (nopI _)) (fun w' hw => cloneI_c n.e.keys [] y1 w' (hin.y.fr hw.fr) hly) ?_
      intro y2; conv => whnf
      refine ⟨⟨trivial, fun w' hw => hw.fr⟩, ?_⟩; conv => whnf
      refine ⟨?_, trivial⟩; conv => whnf
      refine ⟨⟨trivial, fun w' hw => hw.fr⟩, ?_⟩; conv => whnf
      refine ⟨?_, trivial⟩; conv => whnf
      refine ansR_call b46 (rd1 (nopS _)) (fun w' hw => cloneS_c n.e.spans [] s1 w' (hin.s.fr hw.fr) hls) ?_
      intro s2; conv => whnf
      refine ⟨⟨trivial, fun w' hw => hw.fr⟩, ?_⟩; conv => whnf
      refine ⟨?_, trivial⟩; conv => whnf
      refine ⟨⟨trivial, fun w' hw => hw.fr⟩, ?_⟩; conv => whnf
      refine ⟨?_, trivial⟩; conv => whnf
      refine ⟨⟨trivial, fun w' hw => hw.fr⟩, ?_⟩; conv => whnf
      refine ⟨?_, trivial⟩; conv => whnf
      refine ⟨⟨trivial, fun w' hw => hw.fr⟩, ?_⟩; conv => whnf
      repeat refine zq ?_
      refine zr ?_; conv => whnf
      repeat refine zq ?_
      refine At.ret (At.doneB tab_ok hB _ rfl fun w' hw => ?_)
      rw [he, hal]
      refine ⟨k2, y2, s2, rfl, ⟨hw.row (id := 2) rfl, hw.row (id := 3) rfl, hw.row (id := 4) rfl, fun b hb => ?_, hw.apart (i := 2) (j := 3) rfl rfl (by decide), hw.apart (i := 2) (j := 4) rfl rfl (by decide), hw.apart (i := 3) (j := 4) rfl rfl (by decide)⟩, hw.fr⟩
      rcases hb with hb | hb | hb
      ·exact (hw.fresh (id := 2) rfl b hb).elim (fun h => by cases h) _root_.id
      ·exact (hw.fresh (id := 3) rfl b hb).elim (fun h => by cases h) _root_.id
      ·exact (hw.fresh (id := 4) rfl b hb).elim (fun h => by cases h) _root_.id
     ·conv => whnf
      refine ⟨⟨trivial, fun w' hw => hw.fr⟩, ?_⟩; conv => whnf
      refine ⟨?_, trivial⟩; conv => whnf
      refine ansR_call b45 (rd1 (nopI _)) (fun w' hw => cloneI_c n.e.keys [] y1 w' (hin.y.fr hw.fr) hly) ?_
      intro y2; conv => whnf
      refine ⟨⟨trivial, fun w' hw => hw.fr⟩, ?_⟩; conv => whnf
      refine ⟨?_, trivial⟩; conv => whnf
      refine ansR_call b46 (rd1 (nopS _)) (fun w' hw => cloneS_c n.e.spans [] s1 w' (hin.s.fr hw.fr) hls) ?_
      intro s2; conv => whnf
      refine ⟨⟨trivial, fun w' hw => hw.fr⟩, ?_⟩; conv => whnf
      refine ⟨?_, trivial⟩; conv => whnf
      refine ⟨⟨trivial, fun w' hw => hw.fr⟩, ?_⟩; conv => whnf
      refine ⟨?_, trivial⟩; conv => whnf
      refine ⟨⟨trivial, fun w' hw => hw.fr⟩, ?_⟩; conv => whnf
      refine ⟨?_, trivial⟩; conv => whnf
      refine ⟨⟨trivial, fun w' hw => hw.fr⟩, ?_⟩; conv => whnf
      repeat refine zq ?_
      refine zr ?_; conv => whnf
      repeat refine zq ?_
      refine At.ret (At.doneB tab_ok hB _ rfl fun w' hw => ?_)
      rw [he, hal]
      refine ⟨k2, y2, s2, rfl, ⟨hw.row (id := 2) rfl, hw.row (id := 3) rfl, hw.row (id := 4) rfl, fun b hb => ?_, hw.apart (i := 2) (j := 3) rfl rfl (by decide), hw.apart (i := 2) (j := 4) rfl rfl (by decide), hw.apart (i := 3) (j := 4) rfl rfl (by decide)⟩, hw.fr⟩
      rcases hb with hb | hb | hb
      ·exact (hw.fresh (id := 2) rfl b hb).elim (fun h => by cases h) _root_.id
      ·exact (hw.fresh (id := 3) rfl b hb).elim (fun h => by cases h) _root_.id
      ·exact (hw.fresh (id := 4) rfl b hb).elim (fun h => by cases h) _root_.id
    ·conv => whnf
     refine ⟨⟨trivial, fun w' hw => hw.fr⟩, ?_⟩; conv => whnf
     refine ⟨?_, trivial⟩; conv => whnf
     refine ⟨⟨trivial, fun w' hw => hw.fr⟩, ?_⟩; conv => whnf
     refine ⟨?_, trivial⟩; conv => whnf
     refine ansR_call b45 (rd1 (nopI _)) (fun w' hw => cloneI_c n.e.keys [] y1 w' (hin.y.fr hw.fr) hly) ?_
     intro y2; conv => whnf
     refine ⟨⟨trivial, fun w' hw => hw.fr⟩, ?_⟩; conv => whnf
     refine ⟨?_, trivial⟩; conv => whnf
     refine ansR_call b46 (rd1 (nopS _)) (fun w' hw => cloneS_c n.e.spans [] s1 w' (hin.s.fr hw.fr) hls) ?_
     intro s2; conv => whnf
     refine ⟨⟨trivial, fun w' hw => hw.fr⟩, ?_⟩; conv => whnf
     refine ⟨?_, trivial⟩; conv => whnf
     refine ⟨⟨trivial, fun w' hw => hw.fr⟩, ?_⟩; conv => whnf
     refine ⟨?_, trivial⟩; conv => whnf
     refine ⟨⟨trivial, fun w' hw => hw.fr⟩, ?_⟩; conv => whnf
     refine ⟨?_, trivial⟩; conv => whnf
     refine ⟨⟨trivial, fun w' hw => hw.fr⟩, ?_⟩; conv => whnf
     repeat refine zq ?_
     refine zr ?_; conv => whnf
     repeat refine zq ?_
     refine At.ret (At.doneB tab_ok hB _ rfl fun w' hw => ?_)
     rw [he, hal]
     refine ⟨k2, y2, s2, rfl, ⟨hw.row (id := 2) rfl, hw.row (id := 3) rfl, hw.row (id := 4) rfl, fun b hb => ?_, hw.apart (i := 2) (j := 3) rfl rfl (by decide), hw.apart (i := 2) (j := 4) rfl rfl (by decide), hw.apart (i := 3) (j := 4) rfl rfl (by decide)⟩, hw.fr⟩
     rcases hb with hb | hb | hb
     ·exact (hw.fresh (id := 2) rfl b hb).elim (fun h => by cases h) _root_.id
     ·exact (hw.fresh (id := 3) rfl b hb).elim (fun h => by cases h) _root_.id
     ·exact (hw.fresh (id := 4) rfl b hb).elim (fun h => by cases h) _root_.id
   ·conv => whnf
    refine ⟨⟨trivial, fun w' hw => hw.fr⟩, ?_⟩; conv => whnf
    refine ⟨?_, ?_, trivial⟩
    ·conv => whnf
     refine ansR_call b45 (rd1 (nopI _)) (fun w' hw => cloneI_c n.e.knows [] k1 w' (hin.k.fr hw.fr) hlk) ?_
     intro k2; conv => whnf
     refine ⟨⟨trivial, fun w' hw => hw.fr⟩, ?_⟩; conv => whnf
     refine ⟨?_, ?_, trivial⟩
     ·conv => whnf
      refine ansR_call b45 (rd1 (nopI _)) (fun w' hw => cloneI_c n.e.keys [] y1 w' (hin.y.fr hw.fr) hly) ?_
      intro y2; conv => whnf
      refine ⟨⟨trivial, fun w' hw => hw.fr⟩, ?_⟩; conv => whnf
      refine ⟨?_, trivial⟩; conv => whnf
      refine ⟨⟨trivial, fun w' hw => hw.fr⟩, ?_⟩; conv => whnf
      refine ⟨?_, trivial⟩; conv => whnf
      refine ansR_call b46 (rd1 (nopS _)) (fun w' hw => cloneS_c n.e.spans [] s1 w' (hin.s.fr hw.fr) hls) ?_
      intro s2; conv => whnf
      refine ⟨⟨trivial, fun w' hw => hw.fr⟩, ?_⟩; conv => whnf
      refine ⟨?_, trivial⟩; conv => whnf
      refine ⟨⟨trivial, fun w' hw => hw.fr⟩, ?_⟩; conv => whnf
      refine ⟨?_, trivial⟩; conv => whnf
      refine ⟨⟨trivial, fun w' hw => hw.fr⟩, ?_⟩; conv => whnf
      refine ⟨?_, trivial⟩; conv => whnf
      refine ⟨⟨trivial, fun w' hw => hw.fr⟩, ?_⟩; conv => whnf
      repeat refine zq ?_
      refine zr ?_; conv => whnf
      repeat refine zq ?_
      refine At.ret (At.doneB tab_ok hB _ rfl fun w' hw => ?_)
      rw [he, hal]
      refine ⟨k2, y2, s2, rfl, ⟨hw.row (id := 2) rfl, hw.row (id := 3) rfl, hw.row (id := 4) rfl, fun b hb => ?_, hw.apart (i := 2) (j := 3) rfl rfl (by decide), hw.apart (i := 2) (j := 4) rfl rfl (by decide), hw.apart (i := 3) (j := 4) rfl rfl (by decide)⟩, hw.fr⟩
      rcases hb with hb | hb | hb
      ·exact (hw.fresh (id := 2) rfl b hb).elim (fun h => by cases h) _root_.id
      ·exact (hw.fresh (id := 3) rfl b hb).elim (fun h => by cases h) _root_.id
      ·exact (hw.fresh (id := 4) rfl b hb).elim (fun h => by cases h) _root_.id
     ·conv => whnf
      refine ⟨⟨trivial, fun w' hw => hw.fr⟩, ?_⟩; conv => whnf
      refine ⟨?_, trivial⟩; conv => whnf
      refine ansR_call b45 (rd1 (nopI _)) (fun w' hw => cloneI_c n.e.keys [] y1 w' (hin.y.fr hw.fr) hly) ?_
      intro y2; conv => whnf
      refine ⟨⟨trivial, fun w' hw => hw.fr⟩, ?_⟩; conv => whnf
      refine ⟨?_, trivial⟩; conv => whnf
      refine ansR_call b46 (rd1 (nopS _)) (fun w' hw => cloneS_c n.e.spans [] s1 w' (hin.s.fr hw.fr) hls) ?_
      intro s2; conv => whnf
      refine ⟨⟨trivial, fun w' hw => hw.fr⟩, ?_⟩; conv => whnf
      refine ⟨?_, trivial⟩; conv => whnf
      refine ⟨⟨trivial, fun w' hw => hw.fr⟩, ?_⟩; conv => whnf
      refine ⟨?_, trivial⟩; conv => whnf
      refine ⟨⟨trivial, fun w' hw => hw.fr⟩, ?_⟩; conv => whnf
      refine ⟨?_, trivial⟩; conv => whnf
      refine ⟨⟨trivial, fun w' hw => hw.fr⟩, ?_⟩; conv => whnf
      repeat refine zq ?_
      refine zr ?_; conv => whnf
      repeat refine zq ?_
      refine At.ret (At.doneB tab_ok hB _ rfl fun w' hw => ?_)
      rw [he, hal]
      refine ⟨k2, y2, s2, rfl, ⟨hw.row (id := 2) rfl, hw.row (id := 3) rfl, hw.row (id := 4) rfl, fun b hb => ?_, hw.apart (i := 2) (j := 3) rfl rfl (by decide), hw.apart (i := 2) (j := 4) rfl rfl (by decide), hw.apart (i := 3) (j := 4) rfl rfl (by decide)⟩, hw.fr⟩
      rcases hb with hb | hb | hb
      ·exact (hw.fresh (id := 2) rfl b hb).elim (fun h => by cases h) _root_.id
      ·exact (hw.fresh (id := 3) rfl b hb).elim (fun h => by cases h) _root_.id
      ·exact (hw.fresh (id := 4) rfl b hb).elim (fun h => by cases h) _root_.id
    ·conv => whnf
     refine ⟨⟨trivial, fun w' hw => hw.fr⟩, ?_⟩; conv => whnf
     refine ⟨?_, trivial⟩; conv => whnf
     refine ansR_call b45 (rd1 (nopI _)) (fun w' hw => cloneI_c n.e.knows [] k1 w' (hin.k.fr hw.fr) hlk) ?_
     intro k2; conv => whnf
     refine ⟨⟨trivial, fun w' hw => hw.fr⟩, ?_⟩; conv => whnf
     refine ⟨?_, trivial⟩; conv => whnf
     refine ansR_call b45 (rd1 (nopI _)) (fun w' hw => cloneI_c n.e.keys [] y1 w' (hin.y.fr hw.fr) hly) ?_
     intro y2; conv => whnf
     refine ⟨⟨trivial, fun w' hw => hw.fr⟩, ?_⟩; conv => whnf
     refine ⟨?_, trivial⟩; conv => whnf
     refine ansR_call b46 (rd1 (nopS _)) (fun w' hw => cloneS_c n.e.spans [] s1 w' (hin.s.fr hw.fr) hls) ?_
     intro s2; conv => whnf
     refine ⟨⟨trivial, fun w' hw => hw.fr⟩, ?_⟩; conv => whnf
     refine ⟨?_, trivial⟩; conv => whnf
     refine ⟨⟨trivial, fun w' hw => hw.fr⟩, ?_⟩; conv => whnf
     refine ⟨?_, trivial⟩; conv => whnf
     refine ⟨⟨trivial, fun w' hw => hw.fr⟩, ?_⟩; conv => whnf
     refine ⟨?_, trivial⟩; conv => whnf
     refine ⟨⟨trivial, fun w' hw => hw.fr⟩, ?_⟩; conv => whnf
     repeat refine zq ?_
     refine zr ?_; conv => whnf
     repeat refine zq ?_
     refine At.ret (At.doneB tab_ok hB _ rfl fun w' hw => ?_)
     rw [he, hal]
     refine ⟨k2, y2, s2, rfl, ⟨hw.row (id := 2) rfl, hw.row (id := 3) rfl, hw.row (id := 4) rfl, fun b hb => ?_, hw.apart (i := 2) (j := 3) rfl rfl (by decide), hw.apart (i := 2) (j := 4) rfl rfl (by decide), hw.apart (i := 3) (j := 4) rfl rfl (by decide)⟩, hw.fr⟩
     rcases hb with hb | hb | hb
     ·exact (hw.fresh (id := 2) rfl b hb).elim (fun h => by cases h) _root_.id
     ·exact (hw.fresh (id := 3) rfl b hb).elim (fun h => by cases h) _root_.id
     ·exact (hw.fresh (id := 4) rfl b hb).elim (fun h => by cases h) _root_.id
   ·conv => whnf
    refine ⟨⟨trivial, fun w' hw => hw.fr⟩, ?_⟩; conv => whnf
    refine ⟨?_, ?_, trivial⟩
    ·conv => whnf
     refine ansR_call b45 (rd1 (nopI _)) (fun w' hw => cloneI_c n.e.knows [] k1 w' (hin.k.fr hw.fr) hlk) ?_
     intro k2; conv => whnf
     refine ⟨⟨trivial, fun w' hw => hw.fr⟩, ?_⟩; conv => whnf
     refine ⟨?_, trivial⟩; conv => whnf
     refine ⟨⟨trivial, fun w' hw => hw.fr⟩, ?_⟩; conv => whnf
     refine ⟨?_, trivial⟩; conv => whnf
     refine ansR_call b45 (rd1 (nopI _)) (fun w' hw => cloneI_c n.e.keys [] y1 w' (hin.y.fr hw.fr) hly) ?_
     intro y2; conv => whnf
     refine ⟨⟨trivial, fun w' hw => hw.fr⟩, ?_⟩; conv => whnf
     refine ⟨?_, trivial⟩; conv => whnf
     refine ansR_call b46 (rd1 (nopS _)) (fun w' hw => cloneS_c n.e.spans [] s1 w' (hin.s.fr hw.fr) hls) ?_
     intro s2; conv => whnf
     refine ⟨⟨trivial, fun w' hw => hw.fr⟩, ?_⟩; conv => whnf
     refine ⟨?_, trivial⟩; conv => whnf
     refine ⟨⟨trivial, fun w' hw => hw.fr⟩, ?_⟩; conv => whnf
     refine ⟨?_, trivial⟩; conv => whnf
     refine ⟨⟨trivial, fun w' hw => hw.fr⟩, ?_⟩; conv => whnf
     refine ⟨?_, trivial⟩; conv => whnf
     refine ⟨⟨trivial, fun w' hw => hw.fr⟩, ?_⟩; conv => whnf
     repeat refine zq ?_
     refine zr ?_; conv => whnf
     repeat refine zq ?_
     refine At.ret (At.doneB tab_ok hB _ rfl fun w' hw => ?_)
     rw [he, hal]
     refine ⟨k2, y2, s2, rfl, ⟨hw.row (id := 2) rfl, hw.row (id := 3) rfl, hw.row (id := 4) rfl, fun b hb => ?_, hw.apart (i := 2) (j := 3) rfl rfl (by decide), hw.apart (i := 2) (j := 4) rfl rfl (by decide), hw.apart (i := 3) (j := 4) rfl rfl (by decide)⟩, hw.fr⟩
     rcases hb with hb | hb | hb
     ·exact (hw.fresh (id := 2) rfl b hb).elim (fun h => by cases h) _root_.id
     ·exact (hw.fresh (id := 3) rfl b hb).elim (fun h => by cases h) _root_.id
     ·exact (hw.fresh (id := 4) rfl b hb).elim (fun h => by cases h) _root_.id
    ·conv => whnf
     refine ⟨⟨trivial, fun w' hw => hw.fr⟩, ?_⟩; conv => whnf
     refine ⟨?_, trivial⟩; conv => whnf
     refine ansR_call b45 (rd1 (nopI _)) (fun w' hw => cloneI_c n.e.knows [] k1 w' (hin.k.fr hw.fr) hlk) ?_
     intro k2; conv => whnf
     refine ⟨⟨trivial, fun w' hw => hw.fr⟩, ?_⟩; conv => whnf
     refine ⟨?_, trivial⟩; conv => whnf
     refine ansR_call b45 (rd1 (nopI _)) (fun w' hw => cloneI_c n.e.keys [] y1 w' (hin.y.fr hw.fr) hly) ?_
     intro y2; conv => whnf
     refine ⟨⟨trivial, fun w' hw => hw.fr⟩, ?_⟩; conv => whnf
     refine ⟨?_, trivial⟩; conv => whnf
     refine ansR_call b46 (rd1 (nopS _)) (fun w' hw => cloneS_c n.e.spans [] s1 w' (hin.s.fr hw.fr) hls) ?_
     intro s2; conv => whnf
     refine ⟨⟨trivial, fun w' hw => hw.fr⟩, ?_⟩; conv => whnf
     refine ⟨?_, trivial⟩; conv => whnf
     refine ⟨⟨trivial, fun w' hw => hw.fr⟩, ?_⟩; conv => whnf
     refine ⟨?_, trivial⟩; conv => whnf
     refine ⟨⟨trivial, fun w' hw => hw.fr⟩, ?_⟩; conv => whnf
     refine ⟨?_, trivial⟩; conv => whnf
     refine ⟨⟨trivial, fun w' hw => hw.fr⟩, ?_⟩; conv => whnf
     repeat refine zq ?_
     refine zr ?_; conv => whnf
     repeat refine zq ?_
     refine At.ret (At.doneB tab_ok hB _ rfl fun w' hw => ?_)
     rw [he, hal]
     refine ⟨k2, y2, s2, rfl, ⟨hw.row (id := 2) rfl, hw.row (id := 3) rfl, hw.row (id := 4) rfl, fun b hb => ?_, hw.apart (i := 2) (j := 3) rfl rfl (by decide), hw.apart (i := 2) (j := 4) rfl rfl (by decide), hw.apart (i := 3) (j := 4) rfl rfl (by decide)⟩, hw.fr⟩
     rcases hb with hb | hb | hb
     ·exact (hw.fresh (id := 2) rfl b hb).elim (fun h => by cases h) _root_.id
     ·exact (hw.fresh (id := 3) rfl b hb).elim (fun h => by cases h) _root_.id
     ·exact (hw.fresh (id := 4) rfl b hb).elim (fun h => by cases h) _root_.id
  ·conv => whnf
   refine ⟨⟨trivial, fun w' hw => hw.fr⟩, ?_⟩; conv => whnf
   refine ⟨?_, ?_, trivial⟩
   ·conv => whnf
    refine ⟨⟨trivial, fun w' hw => hw.fr⟩, ?_⟩; conv => whnf
    refine ⟨?_, ?_, trivial⟩
    ·conv => whnf
     refine ansR_call b45 (rd1 (nopI _)) (fun w' hw => cloneI_c n.e.knows [] k1 w' (hin.k.fr hw.fr) hlk) ?_
     intro k2; conv => whnf
     refine ⟨⟨trivial, fun w' hw => hw.fr⟩, ?_⟩; conv => whnf
     refine ⟨?_, ?_, trivial⟩
     ·conv => whnf
      refine ansR_call b45 (rd1 (nopI _)) (fun w' hw => cloneI_c n.e.keys [] y1 w' (hin.y.fr hw.fr) hly) ?_
      intro y2; conv => whnf
      refine ⟨⟨trivial, fun w' hw => hw.fr⟩, ?_⟩; conv => whnf
      refine ⟨?_, trivial⟩; conv => whnf
      refine ⟨⟨trivial, fun w' hw => hw.fr⟩, ?_⟩; conv => whnf
      refine ⟨?_, trivial⟩; conv => whnf
      refine ansR_call b46 (rd1 (nopS _)) (fun w' hw => cloneS_c n.e.spans [] s1 w' (hin.s.fr hw.fr) hls) ?_
      intro s2; conv => whnf
      refine ⟨⟨trivial, fun w' hw => hw.fr⟩, ?_⟩; conv => whnf
      refine ⟨?_, trivial⟩; conv => whnf
      refine ⟨⟨trivial, fun w' hw => hw.fr⟩, ?_⟩; conv => whnf
      refine ⟨?_, trivial⟩; conv => whnf
      refine ⟨⟨trivial, fun w' hw => hw.fr⟩, ?_⟩; conv => whnf
      refine ⟨?_, trivial⟩; conv => whnf
      refine ⟨⟨trivial, fun w' hw => hw.fr⟩, ?_⟩; conv => whnf
      repeat refine zq ?_
      refine zr ?_; conv => whnf
      repeat refine zq ?_
      refine At.ret (At.doneB tab_ok hB _ rfl fun w' hw => ?_)
      rw [he, hal]
      refine ⟨k2, y2, s2, rfl, ⟨hw.row (id := 2) rfl, hw.row (id := 3) rfl, hw.row (id := 4) rfl, fun b hb => ?_, hw.apart (i := 2) (j := 3) rfl rfl (by decide), hw.apart (i := 2) (j := 4) rfl rfl (by decide), hw.apart (i := 3) (j := 4) rfl rfl (by decide)⟩, hw.fr⟩
      rcases hb with hb | hb | hb
      ·exact (hw.fresh (id := 2) rfl b hb).elim (fun h => by cases h) _root_.id
      ·exact (hw.fresh (id := 3) rfl b hb).elim (fun h => by cases h) _root_.id
      ·exact (hw.fresh (id := 4) rfl b hb).elim (fun h => by cases h) _root_.id
     ·conv => whnf
      refine ⟨⟨trivial, fun w' hw => hw.fr⟩, ?_⟩; conv => whnf
      refine ⟨?_, trivial⟩; conv => whnf
      refine ansR_call b45 (rd1 (nopI _)) (fun w' hw => cloneI_c n.e.keys [] y1 w' (hin.y.fr hw.fr) hly) ?_
      intro y2; conv => whnf
      refine ⟨⟨trivial, fun w' hw => hw.fr⟩, ?_⟩; conv => whnf
      refine ⟨?_, trivial⟩; conv => whnf
      refine ansR_call b46 (rd1 (nopS _)) (fun w' hw => cloneS_c n.e.spans [] s1 w' (hin.s.fr hw.fr) hls) ?_
      intro s2; conv => whnf
      refine ⟨⟨trivial, fun w' hw => hw.fr⟩, ?_⟩; conv => whnf
      refine ⟨?_, trivial⟩; conv => whnf
      refine ⟨⟨trivial, fun w' hw => hw.fr⟩, ?_⟩; conv => whnf
      refine ⟨?_, trivial⟩; conv => whnf
      refine ⟨⟨trivial, fun w' hw => hw.fr⟩, ?_⟩; conv => whnf
      refine ⟨?_, trivial⟩; conv => whnf
      refine ⟨⟨trivial, fun w' hw => hw.fr⟩, ?_⟩; conv => whnf
      repeat refine zq ?_
      refine zr ?_; conv => whnf
      repeat refine zq ?_
      refine At.ret (At.doneB tab_ok hB _ rfl fun w' hw => ?_)
      rw [he, hal]
      refine ⟨k2, y2, s2, rfl, ⟨hw.row (id := 2) rfl, hw.row (id := 3) rfl, hw.row (id := 4) rfl, fun b hb => ?_, hw.apart (i := 2) (j := 3) rfl rfl (by decide), hw.apart (i := 2) (j := 4) rfl rfl (by decide), hw.apart (i := 3) (j := 4) rfl rfl (by decide)⟩, hw.fr⟩
      rcases hb with hb | hb | hb
      ·exact (hw.fresh (id := 2) rfl b hb).elim (fun h => by cases h) _root_.id
      ·exact (hw.fresh (id := 3) rfl b hb).elim (fun h => by cases h) _root_.id
      ·exact (hw.fresh (id := 4) rfl b hb).elim (fun h => by cases h) _root_.id
    ·conv => whnf
     refine ⟨⟨trivial, fun w' hw => hw.fr⟩, ?_⟩; conv => whnf
     refine ⟨?_, trivial⟩; conv => whnf
     refine ansR_call b45 (rd1 (nopI _)) (fun w' hw => cloneI_c n.e.knows [] k1 w' (hin.k.fr hw.fr) hlk) ?_
     intro k2; conv => whnf
     refine ⟨⟨trivial, fun w' hw => hw.fr⟩, ?_⟩; conv => whnf
     refine ⟨?_, trivial⟩; conv => whnf
     refine ansR_call b45 (rd1 (nopI _)) (fun w' hw => cloneI_c n.e.keys [] y1 w' (hin.y.fr hw.fr) hly) ?_
     intro y2; conv => whnf
     refine ⟨⟨trivial, fun w' hw => hw.fr⟩, ?_⟩; conv => whnf
     refine ⟨?_, trivial⟩; conv => whnf
     refine ansR_call b46 (rd1 (nopS _)) (fun w' hw => cloneS_c n.e.spans [] s1 w' (hin.s.fr hw.fr) hls) ?_
     intro s2; conv => whnf
     refine ⟨⟨trivial, fun w' hw => hw.fr⟩, ?_⟩; conv => whnf
     refine ⟨?_, trivial⟩; conv => whnf
     refine ⟨⟨trivial, fun w' hw => hw.fr⟩, ?_⟩; conv => whnf
     refine ⟨?_, trivial⟩; conv => whnf
     refine ⟨⟨trivial, fun w' hw => hw.fr⟩, ?_⟩; conv => whnf
     refine ⟨?_, trivial⟩; conv => whnf
     refine ⟨⟨trivial, fun w' hw => hw.fr⟩, ?_⟩; conv => whnf
     repeat refine zq ?_
     refine zr ?_; conv => whnf
     repeat refine zq ?_
     refine At.ret (At.doneB tab_ok hB _ rfl fun w' hw => ?_)
     rw [he, hal]
     refine ⟨k2, y2, s2, rfl, ⟨hw.row (id := 2) rfl, hw.row (id := 3) rfl, hw.row (id := 4) rfl, fun b hb => ?_, hw.apart (i := 2) (j := 3) rfl rfl (by decide), hw.apart (i := 2) (j := 4) rfl rfl (by decide), hw.apart (i := 3) (j := 4) rfl rfl (by decide)⟩, hw.fr⟩
     rcases hb with hb | hb | hb
     ·exact (hw.fresh (id := 2) rfl b hb).elim (fun h => by cases h) _root_.id
     ·exact (hw.fresh (id := 3) rfl b hb).elim (fun h => by cases h) _root_.id
     ·exact (hw.fresh (id := 4) rfl b hb).elim (fun h => by cases h) _root_.id
   ·conv => whnf
    refine ⟨⟨trivial, fun w' hw => hw.fr⟩, ?_⟩; conv => whnf
    refine ⟨?_, trivial⟩; conv => whnf
    refine ⟨⟨trivial, fun w' hw => hw.fr⟩, ?_⟩; conv => whnf
    refine ⟨?_, trivial⟩; conv => whnf
    refine ansR_call b45 (rd1 (nopI _)) (fun w' hw => cloneI_c n.e.knows [] k1 w' (hin.k.fr hw.fr) hlk) ?_
    intro k2; conv => whnf
    refine ⟨⟨trivial, fun w' hw => hw.fr⟩, ?_⟩; conv => whnf
    refine ⟨?_, trivial⟩; conv => whnf
    refine ansR_call b45 (rd1 (nopI _)) (fun w' hw => cloneI_c n.e.keys [] y1 w' (hin.y.fr hw.fr) hly) ?_
    intro y2; conv => whnf
    refine ⟨⟨trivial, fun w' hw => hw.fr⟩, ?_⟩; conv => whnf
    refine ⟨?_, trivial⟩; conv => whnf
    refine ansR_call b46 (rd1 (nopS _)) (fun w' hw => cloneS_c n.e.spans [] s1 w' (hin.s.fr hw.fr) hls) ?_
    intro s2; conv => whnf
    refine ⟨⟨trivial, fun w' hw => hw.fr⟩, ?_⟩; conv => whnf
    refine ⟨?_, trivial⟩; conv => whnf
    refine ⟨⟨trivial, fun w' hw => hw.fr⟩, ?_⟩; conv => whnf
    refine ⟨?_, trivial⟩; conv => whnf
    refine ⟨⟨trivial, fun w' hw => hw.fr⟩, ?_⟩; conv => whnf
    refine ⟨?_, trivial⟩; conv => whnf
    refine ⟨⟨trivial, fun w' hw => hw.fr⟩, ?_⟩; conv => whnf
    repeat refine zq ?_
    refine zr ?_; conv => whnf
    repeat refine zq ?_
    refine At.ret (At.doneB tab_ok hB _ rfl fun w' hw => ?_)
    rw [he, hal]
    refine ⟨k2, y2, s2, rfl, ⟨hw.row (id := 2) rfl, hw.row (id := 3) rfl, hw.row (id := 4) rfl, fun b hb => ?_, hw.apart (i := 2) (j := 3) rfl rfl (by decide), hw.apart (i := 2) (j := 4) rfl rfl (by decide), hw.apart (i := 3) (j := 4) rfl rfl (by decide)⟩, hw.fr⟩
    rcases hb with hb | hb | hb
    ·exact (hw.fresh (id := 2) rfl b hb).elim (fun h => by cases h) _root_.id
    ·exact (hw.fresh (id := 3) rfl b hb).elim (fun h => by cases h) _root_.id
    ·exact (hw.fresh (id := 4) rfl b hb).elim (fun h => by cases h) _root_.id
  ·conv => whnf
   refine ⟨⟨trivial, fun w' hw => hw.fr⟩, ?_⟩; conv => whnf
   refine ⟨?_, ?_, trivial⟩
   ·conv => whnf
    refine ⟨⟨trivial, fun w' hw => hw.fr⟩, ?_⟩; conv => whnf
    refine ⟨?_, ?_, trivial⟩
    ·conv => whnf
     refine ansR_call b45 (rd1 (nopI _)) (fun w' hw => cloneI_c n.e.knows [] k1 w' (hin.k.fr hw.fr) hlk) ?_
     intro k2; conv => whnf
     refine ⟨⟨trivial, fun w' hw => hw.fr⟩, ?_⟩; conv => whnf
     refine ⟨?_, trivial⟩; conv => whnf
     refine ⟨⟨trivial, fun w' hw => hw.fr⟩, ?_⟩; conv => whnf
     refine ⟨?_, trivial⟩; conv => whnf
     refine ansR_call b45 (rd1 (nopI _)) (fun w' hw => cloneI_c n.e.keys [] y1 w' (hin.y.fr hw.fr) hly) ?_
     intro y2; conv => whnf
     refine ⟨⟨trivial, fun w' hw => hw.fr⟩, ?_⟩; conv => whnf
     refine ⟨?_, trivial⟩; conv => whnf
     refine ansR_call b46 (rd1 (nopS _)) (fun w' hw => cloneS_c n.e.spans [] s1 w' (hin.s.fr hw.fr) hls) ?_
     intro s2; conv => whnf
     refine ⟨⟨trivial, fun w' hw => hw.fr⟩, ?_⟩; conv => whnf
     refine ⟨?_, trivial⟩; conv => whnf
     refine ⟨⟨trivial, fun w' hw => hw.fr⟩, ?_⟩; conv => whnf
     refine ⟨?_, trivial⟩; conv => whnf
     refine ⟨⟨trivial, fun w' hw => hw.fr⟩, ?_⟩; conv => whnf
     refine ⟨?_, trivial⟩; conv => whnf
     refine ⟨⟨trivial, fun w' hw => hw.fr⟩, ?_⟩; conv => whnf
     repeat refine zq ?_
     refine zr ?_; conv => whnf
     repeat refine zq ?_
     refine At.ret (At.doneB tab_ok hB _ rfl fun w' hw => ?_)
     rw [he, hal]
     refine ⟨k2, y2, s2, rfl, ⟨hw.row (id := 2) rfl, hw.row (id := 3) rfl, hw.row (id := 4) rfl, fun b hb => ?_, hw.apart (i := 2) (j := 3) rfl rfl (by decide), hw.apart (i := 2) (j := 4) rfl rfl (by decide), hw.apart (i := 3) (j := 4) rfl rfl (by decide)⟩, hw.fr⟩
     rcases hb with hb | hb | hb
     ·exact (hw.fresh (id := 2) rfl b hb).elim (fun h => by cases h) _root_.id
     ·exact (hw.fresh (id := 3) rfl b hb).elim (fun h => by cases h) _root_.id
     ·exact (hw.fresh (id := 4) rfl b hb).elim (fun h => by cases h) _root_.id
    ·conv => whnf
     refine ⟨⟨trivial, fun w' hw => hw.fr⟩, ?_⟩; conv => whnf
     refine ⟨?_, trivial⟩; conv => whnf
     refine ansR_call b45 (rd1 (nopI _)) (fun w' hw => cloneI_c n.e.knows [] k1 w' (hin.k.fr hw.fr) hlk) ?_
     intro k2; conv => whnf
     refine ⟨⟨trivial, fun w' hw => hw.fr⟩, ?_⟩; conv => whnf
     refine ⟨?_, trivial⟩; conv => whnf
     refine ansR_call b45 (rd1 (nopI _)) (fun w' hw => cloneI_c n.e.keys [] y1 w' (hin.y.fr hw.fr) hly) ?_
     intro y2; conv => whnf
     refine ⟨⟨trivial, fun w' hw => hw.fr⟩, ?_⟩; conv => whnf
     refine ⟨?_, trivial⟩; conv => whnf
     refine ansR_call b46 (rd1 (nopS _)) (fun w' hw => cloneS_c n.e.spans [] s1 w' (hin.s.fr hw.fr) hls) ?_
     intro s2; conv => whnf
     refine ⟨⟨trivial, fun w' hw => hw.fr⟩, ?_⟩; conv => whnf
     refine ⟨?_, trivial⟩; conv => whnf
     refine ⟨⟨trivial, fun w' hw => hw.fr⟩, ?_⟩; conv => whnf
     refine ⟨?_, trivial⟩; conv => whnf
     refine ⟨⟨trivial, fun w' hw => hw.fr⟩, ?_⟩; conv => whnf
     refine ⟨?_, trivial⟩; conv => whnf
     refine ⟨⟨trivial, fun w' hw => hw.fr⟩, ?_⟩; conv => whnf
     repeat refine zq ?_
     refine zr ?_; conv => whnf
     repeat refine zq ?_
     refine At.ret (At.doneB tab_ok hB _ rfl fun w' hw => ?_)
     rw [he, hal]
     refine ⟨k2, y2, s2, rfl, ⟨hw.row (id := 2) rfl, hw.row (id := 3) rfl, hw.row (id := 4) rfl, fun b hb => ?_, hw.apart (i := 2) (j := 3) rfl rfl (by decide), hw.apart (i := 2) (j := 4) rfl rfl (by decide), hw.apart (i := 3) (j := 4) rfl rfl (by decide)⟩, hw.fr⟩
     rcases hb with hb | hb | hb
     ·exact (hw.fresh (id := 2) rfl b hb).elim (fun h => by cases h) _root_.id
     ·exact (hw.fresh (id := 3) rfl b hb).elim (fun h => by cases h) _root_.id
     ·exact (hw.fresh (id := 4) rfl b hb).elim (fun h => by cases h) _root_.id
   ·conv => whnf
    refine ⟨⟨trivial, fun w' hw => hw.fr⟩, ?_⟩; conv => whnf
    refine ⟨?_, trivial⟩; conv => whnf
    refine ⟨⟨trivial, fun w' hw => hw.fr⟩, ?_⟩; conv => whnf
    refine ⟨?_, trivial⟩; conv => whnf
    refine ansR_call b45 (rd1 (nopI _)) (fun w' hw => cloneI_c n.e.knows [] k1 w' (hin.k.fr hw.fr) hlk) ?_
    intro k2; conv => whnf
    refine ⟨⟨trivial, fun w' hw => hw.fr⟩, ?_⟩; conv => whnf
    refine ⟨?_, trivial⟩; conv => whnf
    refine ansR_call b45 (rd1 (nopI _)) (fun w' hw => cloneI_c n.e.keys [] y1 w' (hin.y.fr hw.fr) hly) ?_
    intro y2; conv => whnf
    refine ⟨⟨trivial, fun w' hw => hw.fr⟩, ?_⟩; conv => whnf
    refine ⟨?_, trivial⟩; conv => whnf
    refine ansR_call b46 (rd1 (nopS _)) (fun w' hw => cloneS_c n.e.spans [] s1 w' (hin.s.fr hw.fr) hls) ?_
    intro s2; conv => whnf
    refine ⟨⟨trivial, fun w' hw => hw.fr⟩, ?_⟩; conv => whnf
    refine ⟨?_, trivial⟩; conv => whnf
    refine ⟨⟨trivial, fun w' hw => hw.fr⟩, ?_⟩; conv => whnf
    refine ⟨?_, trivial⟩; conv => whnf
    refine ⟨⟨trivial, fun w' hw => hw.fr⟩, ?_⟩; conv => whnf
    refine ⟨?_, trivial⟩; conv => whnf
    refine ⟨⟨trivial, fun w' hw => hw.fr⟩, ?_⟩; conv => whnf
    repeat refine zq ?_
    refine zr ?_; conv => whnf
    repeat refine zq ?_
    refine At.ret (At.doneB tab_ok hB _ rfl fun w' hw => ?_)
    rw [he, hal]
    refine ⟨k2, y2, s2, rfl, ⟨hw.row (id := 2) rfl, hw.row (id := 3) rfl, hw.row (id := 4) rfl, fun b hb => ?_, hw.apart (i := 2) (j := 3) rfl rfl (by decide), hw.apart (i := 2) (j := 4) rfl rfl (by decide), hw.apart (i := 3) (j := 4) rfl rfl (by decide)⟩, hw.fr⟩
    rcases hb with hb | hb | hb
    ·exact (hw.fresh (id := 2) rfl b hb).elim (fun h => by cases h) _root_.id
    ·exact (hw.fresh (id := 3) rfl b hb).elim (fun h => by cases h) _root_.id
    ·exact (hw.fresh (id := 4) rfl b hb).elim (fun h => by cases h) _root_.id
@[reducible] def encO (e : En) (n1 : Nat) (k : Value) (n2 : Nat) (y : Value) (n3 : Nat) (s : Value) : List CV := [.i e.author, .i e.seq, .i e.day, .o n1 k, .i e.kind, .i e.circle, .i e.who, .i e.n, .i e.m, .i e.ref, .o n2 y, .o n3 s, .s e.text]
theorem rows3_call {st : St} {d : Option Nat} {K : St → Prop} {f : FuncId} {args : List Value} {E : En} {r2 : CV} (hb : Body Tryz.prog f) (hr2 : noP r2 = true)
  (h : ∀ w, Holds st w → Calls Tryz.prog f args.toArray w (fun e w' => ∃ k y s : Value, e = .returned (.tuple #[vE E k y s, r2.den]) ∧ Rows3 E w.heap.size w' k y s ∧ Ext w w'))
  (hk : ∀ k y s, st.pushK (.row k 3 1 (E.knows.map encI)) (fun n1 st1 => st1.pushK (.row y 3 1 (E.keys.map encI)) (fun n2 st2 => st2.pushK (.row s 99 3 (E.spans.map encS)) (fun n3 st3 => goPut st3 d (.tup [.agg (encO E n1 k n2 y n3 s), .c r2]) K)))) :
  UCall Tryz.prog st f args d K :=
 .inl ⟨hb, fun hwf w hw => (h w hw).mono fun e w' ⟨k, y, s, he, hr, hx⟩ => by
  have hk' := hk k y s
  simp only [pushK_eq] at hk'
  have hlt := hw.blk_lt
  have hS : ∀ b, w.heap.size ≤ b → st.ws.heap.size ≤ b := fun b hb => Nat.le_trans hw.fr.size hb
  have hw1 : Holds (st.push (.row k 3 1 (E.knows.map encI))) w' := (hw.ext hx).pushO hr.rk fun b hb => ⟨fun hm => by have := hlt b hm; have := hr.fresh b (.inl hb); omega, .inr (hS b (hr.fresh b (.inl hb)))⟩
  have hw2 : Holds ((st.push (.row k 3 1 (E.knows.map encI))).push (.row y 3 1 (E.keys.map encI))) w' := hw1.pushO hr.ry fun b hb => ⟨fun hm => by
   rcases mem_blks_push hm with hm | hm
   ·exact hr.dky b hm hb
   ·have := hlt b hm; have := hr.fresh b (.inr (.inl hb)); omega, .inr (hS b (hr.fresh b (.inr (.inl hb))))⟩
  have hw3 : Holds (((st.push (.row k 3 1 (E.knows.map encI))).push (.row y 3 1 (E.keys.map encI))).push (.row s 99 3 (E.spans.map encS))) w' := hw2.pushO hr.rs fun b hb => ⟨fun hm => by
   rcases mem_blks_push hm with hm | hm
   ·exact hr.dys b hm hb
   ·rcases mem_blks_push hm with hm | hm
    ·exact hr.dks b hm hb
    ·have := hlt b hm; have := hr.fresh b (.inr (.inr hb)); omega, .inr (hS b (hr.fresh b (.inr (.inr hb))))⟩
  have ok1 : LOok st.hp (.row k 3 1 (E.knows.map encI)) := ⟨rows_some hr.rk, (nopI _).ok⟩
  have ok2 : LOok (st.push (.row k 3 1 (E.knows.map encI))).hp (.row y 3 1 (E.keys.map encI)) := ⟨rows_some hr.ry, (nopI _).ok⟩
  have ok3 : LOok ((st.push (.row k 3 1 (E.knows.map encI))).push (.row y 3 1 (E.keys.map encI))).hp (.row s 99 3 (E.spans.map encS)) := ⟨rows_some hr.rs, (nopS _).ok⟩
  refine ⟨_, _, he.trans ?_, push_same.trans (push_same.trans push_same), ((hwf.push ok1).push ok2).push ok3, ?_, hw3, hk'⟩
  ·rfl
  ·intro v hv
   simp only [List.mem_cons, List.not_mem_nil, or_false] at hv
   rcases hv with rfl | rfl
   ·intro c hc
    simp only [List.mem_cons, List.not_mem_nil, or_false] at hc
    rcases hc with rfl | rfl | rfl | rfl | rfl | rfl | rfl | rfl | rfl | rfl | rfl | rfl | rfl <;> first | trivial | exact ownsAt_slice hr.rk.1 | exact ownsAt_slice hr.ry.1 | exact ownsAt_slice hr.rs.1
   ·exact noP_ok hr2⟩
theorem entry_call {st : St} {d : Option Nat} {K : St → Prop} {h rb : Nat} {N : List Nd} {mk : Int} (hN : NOk N) (H : ∀ w, Holds st w → HR [] w h rb N)
  (hk : ∀ k y s, st.pushK (.row k 3 1 ((entB N mk).knows.map encI)) (fun n1 st1 => st1.pushK (.row y 3 1 ((entB N mk).keys.map encI)) (fun n2 st2 => st2.pushK (.row s 99 3 ((entB N mk).spans.map encS)) (fun n3 st3 => goPut st3 d (.tup [.agg (encO (entB N mk) n1 k n2 y n3 s), .c (.b (alook (hidx N) mk).isSome)]) K)))) :
  UCall Tryz.prog st 13 [ptr h, vI mk] d K := rows3_call (r2 := .b (alook (hidx N) mk).isSome) b13 rfl (fun w hw => entry_r h rb N hN mk w (H w hw)) hk
theorem read_call {st : St} {d : Option Nat} {K : St → Prop} {t : List UInt8} (ht : t.length ≤ 900000) (hG : ∀ w, Holds st w → Gl w)
  (hk : ∀ k y s, st.pushK (.row k 3 1 ((readE t).1.knows.map encI)) (fun n1 st1 => st1.pushK (.row y 3 1 ((readE t).1.keys.map encI)) (fun n2 st2 => st2.pushK (.row s 99 3 ((readE t).1.spans.map encS)) (fun n3 st3 => goPut st3 d (.tup [.agg (encO (readE t).1 n1 k n2 y n3 s), .c (.i (readE t).2)]) K)))) :
  UCall Tryz.prog st 55 [sv t] d K := rows3_call (r2 := .i (readE t).2) b55 rfl (fun w hw => read_c t ht w (hG w hw)) hk
end Go.Proofs.YtdigebokbhmfaaaGreatDoor
namespace Go.Proofs.YtdigebokbhmfaaaGreatDoor
open Go.Vc Rt Go.Bs
def sortI (xs : List Int) : List Int := xs.mergeSort fun x y => decide (x ≤ y)
theorem sortI_len (xs : List Int) : (sortI xs).length = xs.length := List.length_mergeSort xs
theorem sortI_mem {xs : List Int} {x : Int} : x ∈ sortI xs ↔ x ∈ xs := List.mem_mergeSort
theorem densI (xs : List Int) : dens (xs.map encI).flatten = xs.map (Value.int .i64) := by
 induction xs with
 | nil => rfl
 | cons x r ih => simp only [List.map_cons, List.flatten_cons, dens, List.map_append] at ih ⊢; rw [ih]; rfl
theorem sortI_c (xs : List Int) (v : Value) (w : World) (h : (LO.row v 3 1 (xs.map encI)).holds w) (hN : xs.length ≤ 1000000) :
  Calls Tryz.prog 44 #[v] w (fun e w' => e = .returned (.tuple #[]) ∧ (LO.row v 3 1 ((sortI xs).map encI)).holds w' ∧ Fr (blkOf v) w w') := by
 have h' := h
 obtain ⟨⟨hlen, hv⟩, hL⟩ := h
 rcases hv with ⟨rfl, h0⟩ | ⟨g, o, cap, cur, rfl, hg, hnc, hcm, hcs, htake⟩
 ·have hx : xs = [] := List.eq_nil_of_length_eq_zero (by simpa using h0)
  subst hx
  exact (Tryz.slices_Sort_int_none none 0 w).mono fun e w' ⟨he, hw⟩ => ⟨he, by rw [hw]; simpa [sortI] using h', by rw [hw]; exact Fr.refl _ _⟩
 ·simp only [List.length_map, Nat.mul_one] at hnc hcs htake hlen ⊢
  have hgs : g < w.heap.size := (Array.getElem?_eq_some_iff.1 hg).1
  rw [densI] at htake
  have hcell : ∀ j (hj : j < xs.length), w.cell? ⟨g, o + j, none⟩ = some (.int .i64 xs[j]) := by
   intro j hj
   rw [cell_of_row w g _ _ _ _ hg]
   have := congrArg (fun l => l[j]?) htake
   simp only [List.getElem?_take_of_lt hj, List.getElem?_drop, List.getElem?_map, List.getElem?_eq_getElem hj, Option.map_some] at this
   simpa using this
  have hH : Sort.Holds (Value.int .i64) w g o xs.toArray := by
   intro j hj
   have hj' : j < xs.length := by simpa using hj
   refine ⟨?_, by simp [World.frozen?, hg]⟩
   rw [hcell j hj', getElem!_pos xs.toArray j hj]; simp
  refine (Tryz.slices_Sort_int g o cap xs w hH hgs (by omega)).mono fun e w' ⟨he, n, os, hw⟩ => ⟨he, ?_, ?_⟩
  ·have hheap : w'.heap[g]? = some (.cells (Sort.putCells (Value.int .i64) o (sortI xs).toArray cur) 3 (0, 0)) := by
    rw [hw]
    simp only [Sort.grow, Sort.putRow, Sort.mapBlock, Sort.ahead]
    rw [Array.getElem?_append_left (by simpa using hgs), Array.getElem?_modify, if_pos rfl, hg]
    rfl
   have hsl := sortI_len xs
   refine ⟨⟨by simp [densI], .inr ⟨g, o, cap, _, by simp [hsl], hheap, by simp [hsl]; omega, hcm, by simp [Sort.putCells]; omega, ?_⟩⟩, fun l hl => by obtain ⟨x, _, rfl⟩ := List.mem_map.1 hl; rfl⟩
   rw [densI]
   apply List.ext_getElem?
   intro j
   by_cases hj : j < xs.length
   ·have hlt : o + j < cur.size := by omega
    have hj2 : j < (sortI xs).length := by rw [hsl]; exact hj
    rw [List.getElem?_take_of_lt (by simp [hsl]; omega), List.getElem?_drop, List.getElem?_map, List.getElem?_eq_getElem (l := sortI xs) hj2]
    simp [Sort.putCells, hlt, hsl, hj]
   ·rw [List.getElem?_eq_none (by simp [hsl]; omega), List.getElem?_eq_none (by simp [hsl]; omega)]
  ·rw [hw]
   refine ⟨rfl, rfl, rfl, by simp [Sort.grow, Sort.putRow, Sort.mapBlock, Sort.ahead], fun k hk hn => ?_⟩
   have hne : g ≠ k := fun e => hn (by simp [blkOf, e])
   simp only [Sort.grow, Sort.putRow, Sort.mapBlock, Sort.ahead]
   rw [Array.getElem?_append_left (by simpa using hk), Array.getElem?_modify, if_neg hne]
theorem sortI_call {st : St} {d : Option Nat} {K : St → Prop} {id : Nat} {v : Value} {xs : List Int} (hl : Vc.look st.hp id = some (.row v 3 1 (xs.map encI))) (hN : xs.length ≤ 1000000)
  (hk : hpSetK st.hp id (.row v 3 1 ((sortI xs).map encI)) (fun hp => st.withHp hp (fun st' => goPut st' d (.tup []) K))) : UCall Tryz.prog st 44 [v] d K :=
 row_call (id := id) b44 hl (fun r v' L' => r = .tup [] ∧ v' = v ∧ L' = (sortI xs).map encI)
  (fun w' hw => (sortI_c xs v w' (hw.row hl) hN).mono fun e w'' ⟨he, h1, h2⟩ => ⟨.tup [], v, _, he, ⟨rfl, rfl, rfl⟩, h1, h2, fun b hb => .inl hb⟩)
  (fun r v' L' ⟨hr, hv, hL⟩ hsl => by subst hr; subst hv; subst hL; exact ⟨fun v hv => (by cases hv), nopI _, hk⟩)
end Go.Proofs.YtdigebokbhmfaaaGreatDoor
namespace Go.Proofs.YtdigebokbhmfaaaGreatDoor
open Go.Vc Rt Go.Bs
def marksB (N : List Nd) : List Int := sortI (N.map Nd.mark)
def namedB (N : List Nd) : List Nat := N.foldl (fun b n => unionB b n.past) []
def headL (bits : List Nat) (N : List Nd) : List Int := (N.zipIdx.filter fun p => !testB bits p.2).map fun p => p.1.mark
def headsB (N : List Nd) : List Int := sortI (headL (namedB N) N)
theorem marksB_len (N : List Nd) : (marksB N).length = N.length := by unfold marksB; rw [sortI_len, List.length_map]
theorem take_snoc {α : Type} {xs : List α} {k : Nat} {x : α} (hx : xs[k]? = some x) : xs.take (k + 1) = xs.take k ++ [x] := by rw [List.take_add_one, hx]; rfl
theorem marks_r (h rb : Nat) (N : List Nd) (hN : NOk N) (w : World) (H : HR [] w h rb N) : AnsR Tryz.prog 12 [ptr h] [.row 3 1 ((marksB N).map encI)] w := by
 obtain ⟨v, m, hb, hv, hm, _⟩ := H.out
 have hvl := hv.len
 have hNl := hN.len
 refine calls_e [.s (.c (.e (hs h) 3 0 0))] Tryz.func12 rfl rfl (Nat.le_of_ble_eq_true rfl) ⟨⟨_, _, _, rfl⟩, trivial⟩ fun B hB => ?_
 repeat refine zq ?_
 refine zr ?_; conv => whnf
 repeat refine zq ?_
 refine zr ?_; conv => whnf
 repeat refine zq ?_
 refine zr ?_; conv => whnf
 refine ⟨[.x v], fun w' hw => hb.load (n := 1) (i := 0) (off := 1) hw.fr rfl rfl, ?_⟩; conv => whnf
 refine ⟨hv.sl, ?_⟩; conv => whnf
 repeat refine zq ?_
 refine At.block ?_
 refine At.loopH (fun p' : Nat × Value => { N := Tryz.f12.ntmps, sl := [(3, some (.s (.c (.o 0 p'.2)))), (9, some (.x v)), (10, some (.i N.length)), (11, some (.i p'.1))], gl := [], hp := [(0, .row p'.2 3 1 (((N.take p'.1).map Nd.mark).map encI))], S := [], ws := w }) (fun p' : Nat × Value => p'.1 ≤ N.length) (fun p' : Nat × Value => N.length - p'.1)
  (fun w' hw => ⟨(0, .slice none 0 0), Nat.zero_le _, Le.of rfl rfl ⟨rfl, rfl, congrArg (Value.int .i64) hvl, rfl, trivial⟩, hw.nil rfl rfl rfl, ⟨⟨_, _, _, rfl⟩, trivial⟩, ⟨(nopI _).okH, trivial⟩⟩) ?_
 rintro ⟨k, vv⟩ hk
 simp only at hk ⊢
 repeat refine zq ?_
 refine zr ?_; conv => whnf
 repeat refine zq ?_
 refine At.cond rfl (fun hc => At.skip ?_) (fun hc => At.exit ?_)
 ·have hlt : k < N.length := by have := of_decide_eq_true hc; omega
  obtain ⟨x, hx⟩ : ∃ x, N[k]? = some x := ⟨_, List.getElem?_eq_getElem hlt⟩
  have hlt : k < N.length := by have := of_decide_eq_true hc; omega
  obtain ⟨_, ⟨k1, y1, s1, p, rfl, hin, hp⟩, hc2⟩ := hv.at hx
  repeat refine zq ?_
  refine At.block ?_
  repeat refine zq ?_
  refine zr ?_; conv => whnf
  refine ⟨by omega, ?_⟩; conv => whnf
  refine ⟨by omega, ?_⟩; conv => whnf
  refine ⟨encN x k1 y1 s1 p, fun w' hw => (hc2 w' hw.fr).part (n := 18) rfl, ?_⟩; conv => whnf
  intro b5; conv => whnf
  refine ⟨hin.k.one, ?_⟩; conv => whnf
  refine ⟨hin.y.one, ?_⟩; conv => whnf
  refine ⟨hin.s.one, ?_⟩; conv => whnf
  refine ⟨hp.one, ?_⟩; conv => whnf
  repeat refine zq ?_
  refine zr ?_; conv => whnf
  intro v4; conv => whnf
  refine ⟨rfl, ?_⟩; conv => whnf
  refine ⟨⟨rfl, by simp; omega⟩, ?_⟩; conv => whnf
  intro v5; conv => whnf
  repeat refine zq ?_
  refine zr ?_; conv => whnf
  refine ⟨⟨by omega, by omega⟩, ?_⟩; conv => whnf
  refine At.nextH fun w' hw => ⟨(k + 1, v5), by simp only; omega, by simp only; omega, Le.of rfl rfl ⟨rfl, rfl, rfl, rfl, trivial⟩, hw.keep [0] ?_ rfl rfl, ⟨⟨_, _, _, rfl⟩, trivial⟩, ⟨(nopI _).okH, trivial⟩⟩
  show [(0, LO.row v5 3 1 _)] = [(0, LO.row v5 3 1 _)]
  rw [take_snoc hx, List.map_append, List.map_append]
  rfl
 ·have hge : k = N.length := by have := of_decide_eq_false hc; omega
  subst hge
  rw [List.take_length]
  repeat refine zq ?_
  refine zr ?_; conv => whnf
  refine sortI_call (id := 0) rfl (by simp; omega) ?_; conv => whnf
  repeat refine zq ?_
  refine zr ?_; conv => whnf
  repeat refine zq ?_
  refine At.ret (At.doneB tab_ok hB _ rfl fun w' hw => ansR_row (id := 0) hw rfl rfl rfl)
end Go.Proofs.YtdigebokbhmfaaaGreatDoor
