/- Texts that the law leans on. -/
import Derived.Test.YtdigebokbhmfaaaGreatDoorU24
import Derived.Test.YtdigebokbhmfaaaGreatDoorU20
import Derived.Test.YtdigebokbhmfaaaGreatDoorU18
set_option linter.unusedVariables false
set_option linter.unusedSimpArgs false
namespace Go.Proofs.YtdigebokbhmfaaaGreatDoor
open Go.Vc Rt Go.Bs
theorem namedB_snoc {N : List Nd} {k : Nat} {x : Nd} (hx : N[k]? = some x) : namedB (N.take (k + 1)) = unionB (namedB (N.take k)) x.past := by
 rw [take_snoc hx]; unfold namedB; rw [List.foldl_append]; rfl
theorem headL_snoc {bits : List Nat} {N : List Nd} {k : Nat} {x : Nd} (hx : N[k]? = some x) : headL bits (N.take (k + 1)) = headL bits (N.take k) ++ if testB bits k then [] else [x.mark] := by
 have hl : (N.take k).length = k := by have := (List.getElem?_eq_some_iff.1 hx).1; rw [List.length_take]; omega
 rw [take_snoc hx]; unfold headL
 rw [List.zipIdx_append, List.filter_append, List.map_append, hl]
 congr 1
 cases hb : testB bits k <;> simp [hb]
theorem headL_len (bits : List Nat) (N : List Nd) : (headL bits N).length ≤ N.length := by
 unfold headL
 rw [List.length_map]
 exact Nat.le_trans (List.length_filter_le _ _) (by simp)
theorem headsB_len (N : List Nd) : (headsB N).length ≤ N.length := by unfold headsB; rw [sortI_len]; exact headL_len _ _
theorem heads_r (h rb : Nat) (N : List Nd) (hN : NOk N) (w : World) (H : HR [] w h rb N) : AnsR Tryz.prog 49 [ptr h] [.row 3 1 ((headsB N).map encI)] w := by
 obtain ⟨v, m, hb, hv, hm, _⟩ := H.out
 have hvl := hv.len
 have hNl := hN.len
 refine calls_e [.s (.c (.e (hs h) 3 0 0))] Tryz.func49 rfl rfl (Nat.le_of_ble_eq_true rfl) ⟨⟨_, _, _, rfl⟩, trivial⟩ fun B hB => ?_
 repeat refine zq ?_
 refine zr ?_; conv => whnf
 repeat refine zq ?_
 refine zr ?_; conv => whnf
 repeat refine zq ?_
 refine zr ?_; conv => whnf
 refine ⟨[.x v], fun w' hw => hb.load (n := 1) (i := 0) (off := 1) hw.fr rfl rfl, ?_⟩; conv => whnf
 refine ⟨hv.sl, ?_⟩; conv => whnf
 repeat refine zq ?_
 refine At.block ?_
 refine At.loopH (fun p' : Nat × Value => { N := Tryz.f49.ntmps, sl := [(0, some (.s (.c (.e (hs h) 3 0 0)))), (3, some (.s (.c (.o 0 p'.2)))), (12, some (.x v)), (13, some (.i N.length)), (14, some (.i p'.1))], gl := [], hp := [(0, .row p'.2 136 1 ((namedB (N.take p'.1)).map encW))], S := [], ws := w }) (fun p' : Nat × Value => p'.1 ≤ N.length ∧ okW (namedB (N.take p'.1)) ∧ (namedB (N.take p'.1)).length ≤ N.length / 64 + 1) (fun p' : Nat × Value => N.length - p'.1)
  (fun w' hw => ⟨(0, .slice none 0 0), ⟨Nat.zero_le _, (fun x hx => by cases hx), by simp [namedB]⟩, Le.of rfl rfl ⟨rfl, rfl, rfl, congrArg (Value.int .i64) hvl, rfl, trivial⟩, hw.nil rfl rfl rfl, ⟨⟨_, _, _, rfl⟩, ⟨_, _, _, rfl⟩, trivial⟩, ⟨(nopW _).okH, trivial⟩⟩) ?_
 rintro ⟨k, vv⟩ ⟨hk, hbo, hbl⟩
 simp only at hk hbo hbl ⊢
 repeat refine zq ?_
 refine zr ?_; conv => whnf
 repeat refine zq ?_
 refine At.cond rfl (fun hc => At.skip ?_) (fun hc => At.exit ?_)
 ·have hlt : k < N.length := by have := of_decide_eq_true hc; omega
  obtain ⟨x, hx⟩ : ∃ x, N[k]? = some x := ⟨_, List.getElem?_eq_getElem hlt⟩
  have hlt : k < N.length := by have := of_decide_eq_true hc; omega
  obtain ⟨_, ⟨k1, y1, s1, p, rfl, hin, hp⟩, hc2⟩ := hv.at hx
  obtain ⟨q1, q2, _⟩ := hN.nd k x hx
  have hul := unionB_len (namedB (N.take k)) x.past
  have hsn := namedB_snoc hx
  repeat refine zq ?_
  refine At.block ?_
  repeat refine zq ?_
  refine zr ?_; conv => whnf
  refine ⟨by omega, ?_⟩; conv => whnf
  refine ⟨by omega, ?_⟩; conv => whnf
  refine ⟨encN x k1 y1 s1 p, fun w' hw => (hc2 w' hw.fr).part (n := 18) rfl, ?_⟩; conv => whnf
  intro b5; conv => whnf
  refine ⟨hin.k.one, ?_⟩; conv => whnf
  refine ⟨hin.y.one, ?_⟩; conv => whnf
  refine ⟨hin.s.one, ?_⟩; conv => whnf
  refine ⟨hp.one, ?_⟩; conv => whnf
  repeat refine zq ?_
  refine zr ?_; conv => whnf
  refine rowG_call (id := 0) b66 rfl (nopW _) (fun w' hw => union_c _ x.past hbo q1 (by omega) (by omega) _ vv p w' (hw.row (id := 0) rfl) (hw.lift hp) (fun y hy => by simp [St.blks, LO.blks]; exact .inr hy)) ?_
  intro v1; conv => whnf
  repeat refine zq ?_
  refine zr ?_; conv => whnf
  refine ⟨⟨by omega, by omega⟩, ?_⟩; conv => whnf
  refine At.nextH fun w' hw => ⟨(k + 1, v1), ⟨by simp only; omega, by simp only; rw [hsn]; exact okW_union hbo q1, by simp only; rw [hsn]; omega⟩, by simp only; omega, Le.of rfl rfl ⟨rfl, rfl, rfl, rfl, rfl, trivial⟩, hw.keep [0] ?_ rfl rfl, ⟨⟨_, _, _, rfl⟩, ⟨_, _, _, rfl⟩, trivial⟩, ⟨(nopW _).okH, trivial⟩⟩
  show [(0, LO.row v1 136 1 _)] = [(0, LO.row v1 136 1 _)]
  rw [hsn]
 ·have hge : k = N.length := by have := of_decide_eq_false hc; omega
  subst hge
  rw [List.take_length] at hbo hbl ⊢
  repeat refine zq ?_
  refine zr ?_; conv => whnf
  repeat refine zq ?_
  refine zr ?_; conv => whnf
  refine ⟨[.x v], fun w' hw => hb.load (n := 1) (i := 0) (off := 1) hw.fr rfl rfl, ?_⟩; conv => whnf
  refine ⟨hv.sl, ?_⟩; conv => whnf
  repeat refine zq ?_
  refine At.block ?_
  refine At.loopH (fun p' : Nat × Value => { N := Tryz.f49.ntmps, sl := [(3, some (.s (.c (.o 0 vv)))), (6, some (.s (.c (.o 1 p'.2)))), (26, some (.x v)), (27, some (.i N.length)), (28, some (.i p'.1))], gl := [], hp := [(1, .row p'.2 3 1 ((headL (namedB N) (N.take p'.1)).map encI)), (0, .row vv 136 1 ((namedB N).map encW))], S := [], ws := w }) (fun p' : Nat × Value => p'.1 ≤ N.length) (fun p' : Nat × Value => N.length - p'.1)
   (fun w' hw => ⟨(0, .slice none 0 0), Nat.zero_le _, Le.of rfl rfl ⟨rfl, rfl, rfl, congrArg (Value.int .i64) hvl, rfl, trivial⟩, hw.nil rfl rfl rfl, ⟨⟨_, _, _, rfl⟩, ⟨_, _, _, rfl⟩, trivial⟩, ⟨(nopI _).okH, (nopW _).okH, trivial⟩⟩) ?_
  rintro ⟨k, vo⟩ hk
  simp only at hk ⊢
  repeat refine zq ?_
  refine zr ?_; conv => whnf
  repeat refine zq ?_
  refine At.cond rfl (fun hc => At.skip ?_) (fun hc => At.exit ?_)
  ·have hlt : k < N.length := by have := of_decide_eq_true hc; omega
   obtain ⟨x, hx⟩ : ∃ x, N[k]? = some x := ⟨_, List.getElem?_eq_getElem hlt⟩
   have hlt : k < N.length := by have := of_decide_eq_true hc; omega
   obtain ⟨_, ⟨k1, y1, s1, p, rfl, hin, hp⟩, hc2⟩ := hv.at hx
   have hsn := headL_snoc (bits := namedB N) hx
   have hhl := headL_len (namedB N) (N.take k)
   rw [List.length_take] at hhl
   repeat refine zq ?_
   refine At.block ?_
   repeat refine zq ?_
   refine zr ?_; conv => whnf
   refine ⟨by omega, ?_⟩; conv => whnf
   refine ⟨by omega, ?_⟩; conv => whnf
   refine ⟨encN x k1 y1 s1 p, fun w' hw => (hc2 w' hw.fr).part (n := 18) rfl, ?_⟩; conv => whnf
   intro b8; conv => whnf
   refine ⟨hin.k.one, ?_⟩; conv => whnf
   refine ⟨hin.y.one, ?_⟩; conv => whnf
   refine ⟨hin.s.one, ?_⟩; conv => whnf
   refine ⟨hp.one, ?_⟩; conv => whnf
   repeat refine zq ?_
   refine zr ?_; conv => whnf
   refine ans_call b36 rfl (fun w' hw => test_c (namedB N) hbo k [] vv w' (SlOf.of_row (enc := encW) (hw.row (id := 0) rfl) (fun _ _ => nilS) (by omega)) (by omega)) ?_; conv => whnf
   cases htb : testB (namedB N) k with
   | true =>
    rw [htb, if_pos rfl, List.append_nil] at hsn
    repeat refine zq ?_
    refine At.cond (t := false) rfl (fun hq => by cases hq) (fun _ => At.skip ?_)
    repeat refine zq ?_
    refine zr ?_; conv => whnf
    refine ⟨⟨by omega, by omega⟩, ?_⟩; conv => whnf
    refine At.nextH fun w' hw => ⟨(k + 1, vo), by simp only; omega, by simp only; omega, Le.of rfl rfl ⟨rfl, rfl, rfl, rfl, rfl, trivial⟩, hw.keep [1, 0] ?_ rfl rfl, ⟨⟨_, _, _, rfl⟩, ⟨_, _, _, rfl⟩, trivial⟩, ⟨(nopI _).okH, (nopW _).okH, trivial⟩⟩
    show [(1, LO.row vo 3 1 _), (0, LO.row vv 136 1 _)] = [(1, LO.row vo 3 1 _), (0, LO.row vv 136 1 _)]
    rw [hsn]
   | false =>
    rw [htb, if_neg (by decide)] at hsn
    repeat refine zq ?_
    refine At.cond (t := true) rfl (fun _ => ?_) (fun hq => by cases hq)
    repeat refine zq ?_
    refine zr ?_; conv => whnf
    intro v4; conv => whnf
    refine ⟨rfl, ?_⟩; conv => whnf
    refine ⟨⟨rfl, by simp; omega⟩, ?_⟩; conv => whnf
    intro v5; conv => whnf
    repeat refine zq ?_
    refine zr ?_; conv => whnf
    refine ⟨⟨by omega, by omega⟩, ?_⟩; conv => whnf
    refine At.nextH fun w' hw => ⟨(k + 1, v5), by simp only; omega, by simp only; omega, Le.of rfl rfl ⟨rfl, rfl, rfl, rfl, rfl, trivial⟩, hw.keep [1, 0] ?_ rfl rfl, ⟨⟨_, _, _, rfl⟩, ⟨_, _, _, rfl⟩, trivial⟩, ⟨(nopI _).okH, (nopW _).okH, trivial⟩⟩
    show [(1, LO.row v5 3 1 _), (0, LO.row vv 136 1 _)] = [(1, LO.row v5 3 1 _), (0, LO.row vv 136 1 _)]
    rw [hsn, List.map_append]
    rfl
  ·have hge : k = N.length := by have := of_decide_eq_false hc; omega
   subst hge
   have hhl := headL_len (namedB N) N
   rw [List.take_length]
   repeat refine zq ?_
   refine zr ?_; conv => whnf
   refine sortI_call (id := 1) rfl (by omega) ?_; conv => whnf
   repeat refine zq ?_
   refine zr ?_; conv => whnf
   repeat refine zq ?_
   refine At.ret (At.doneB tab_ok hB _ rfl fun w' hw => ansR_row (id := 1) hw rfl rfl rfl)
end Go.Proofs.YtdigebokbhmfaaaGreatDoor
namespace Go.Proofs.YtdigebokbhmfaaaGreatDoor
open Go.Vc Rt Go.Bs
theorem ndsM_len (M : List NdV) : (ndsM M).length = M.length := by unfold ndsM; exact List.length_map _
theorem ndsM_get' {M : List NdV} {i : Nat} {n : Nd} (h : (ndsM M)[i]? = some n) : ∃ p, M[i]? = some p ∧ p.1 = n := by
 unfold ndsM at h; rw [List.getElem?_map] at h
 cases hp : M[i]? with
 | none => rw [hp] at h; cases h
 | some p => rw [hp] at h; exact ⟨p, rfl, by simpa using h⟩
def szOk (n : Nd) : Prop := n.e.knows.length ≤ 1000000 ∧ n.e.keys.length ≤ 1000000 ∧ n.e.spans.length ≤ 1000000 ∧ n.past.length ≤ 1000000
theorem NOk.sz {N : List Nd} (h : NOk N) : ∀ n ∈ N, szOk n := fun n hn => by
 obtain ⟨i, hi, rfl⟩ := List.getElem_of_mem hn
 obtain ⟨q1, q2, _, _, hE, _⟩ := h.nd i _ (List.getElem?_eq_getElem hi)
 have := h.len
 exact ⟨hE.lk, hE.ly, hE.ls, by omega⟩
theorem big {n : Nat} (h : n ≤ 1000000) : n ≤ 9223372036854775807 := by omega
theorem relAll_of {S Bs : List Nat} {w : World} (hS : ∀ b ∈ S, b ∉ Bs) : ∀ {M : List NdV}, relM Bs M w → (∀ n ∈ ndsM M, szOk n) → relAll ndT S w (ndsM M) (M.map encM)
 | [], _, _ => trivial
 | p :: M, h, hz => by
  have hp := h p (by simp)
  obtain ⟨z1, z2, z3, z4⟩ := hz p.1 (by simp [ndsM])
  have hd : ∀ {u : Value}, (∀ b ∈ blkOf u, b ∈ Bs) → ∀ b ∈ blkOf u, b ∉ S := fun hu b hb hs => hS b hs (hu b hb)
  refine ⟨⟨encM p, rfl, p.2.1, p.2.2.1, p.2.2.2.1, p.2.2.2.2, rfl, ⟨SlOf.of_row (enc := fun n => [.i n]) hp.rk (hd fun b hb => hp.bs b (.inl hb)) (big z1), SlOf.of_row (enc := fun n => [.i n]) hp.ry (hd fun b hb => hp.bs b (.inr (.inl hb))) (big z2), SlOf.of_row hp.rs (hd fun b hb => hp.bs b (.inr (.inr (.inl hb)))) (big z3)⟩, SlOf.of_row (enc := encW) hp.rp (hd fun b hb => hp.bs b (.inr (.inr (.inr hb)))) (big z4)⟩, ?_⟩
  exact relAll_of hS (fun q hq => h q (List.mem_cons_of_mem _ hq)) (fun n hn => hz n (by simp only [ndsM, List.map_cons] at hn ⊢; exact List.mem_cons_of_mem _ hn))
theorem box_sl {w : World} {h rb m : Nat} {v : Value} {S : List Nat} (hb : w.heap[h]? = some (.cells #[ptr rb, v, .map (some m)] 81 (0, 0))) (hS : h ∉ S) : SlOf hbT S w (hs h) [(rb, v, m)] := by
 have hrow : (LO.row (hs h) 81 3 ([(rb, v, m)].map encHB)).holds w :=
  ⟨⟨rfl, .inr ⟨h, 0, 1, _, rfl, hb, Nat.le_refl 1, by unfold maxLen; omega, by simp, rfl⟩⟩, fun l hl => by rw [List.mem_singleton.1 hl]; rfl⟩
 exact SlOf.of_row (enc := encHB) hrow (fun b hb => by simp only [hs, blkOf, List.mem_singleton] at hb; rw [hb]; exact hS) (by simp)
theorem hr_parts {w : World} {h rb m : Nat} {v : Value} {Bs S : List Nat} {M : List NdV} (hN : NOk (ndsM M)) (hb : w.heap[h]? = some (.cells #[ptr rb, v, .map (some m)] 81 (0, 0))) (hr : (LO.row v 86 18 (M.map encM)).holds w)
  (hm : MapAt vI vI w m (hidx (ndsM M))) (hq : relM Bs M w) (hS : ∀ b ∈ S, b ≠ h ∧ b ∉ blkOf v ∧ b ≠ m ∧ b ∉ Bs) : HR S w h rb (ndsM M) :=
 ⟨v, m, box_sl hb fun hm => (hS h hm).1 rfl, SlOf.of_rows (T := ndT) hr (fun b hb hs => (hS b hs).2.1 hb) (by have := hN.len; omega) (relAll_of (fun b hb => (hS b hb).2.2.2) hq hN.sz), hm, fun hm => (hS m hm).2.2.1 rfl⟩
theorem HistAt.hr {w : World} {h rb m : Nat} {v : Value} {Bs S : List Nat} {M : List NdV} (H : HistAt w h rb v m Bs M) (hN : NOk (ndsM M)) (hS : ∀ b ∈ S, b ≠ h ∧ b ∉ blkOf v ∧ b ≠ m ∧ b ∉ Bs) : HR S w h rb (ndsM M) :=
 hr_parts hN H.box H.row H.map (H.rel.2 w fun _ _ => rfl) hS
theorem hr_of {st : St} {w : World} {h rb m : Nat} {v : Value} {Bs : List Nat} {M : List NdV} (hw : Holds st w) (h0 : Vc.look st.hp 0 = some (.box h 81 [.x (ptr rb), .o 1 v, .x (.map (some m))])) (h1 : Vc.look st.hp 1 = some (.row v 86 18 (M.map encM)))
  (h2 : Vc.look st.hp 2 = some (mapO vI vI m (hidx (ndsM M)))) (h3 : Vc.look st.hp 3 = some (.ab Bs (relM Bs M))) (hN : NOk (ndsM M)) : HR [] w h rb (ndsM M) :=
 hr_parts hN (hw.box h0) (hw.row h1) (mapO_at (hw.objs _ (look_mem h2))) ((hw.objs _ (look_mem h3)).2 w fun _ _ => rfl) (fun b hb => by cases hb)
theorem RingAt.fr {S : List Nat} {w w' : World} {b m : Nat} {v : Value} {R : List SK} (h : RingAt w b v m R) (hf : Fr S w w') (h1 : b ∉ S) (h2 : m ∉ S) (h3 : ∀ x ∈ blkOf v, x ∉ S) : RingAt w' b v m R :=
 ⟨(hf.block b (Array.getElem?_eq_some_iff.1 h.box).1 h1).trans h.box, mapAt_fr h.map hf h2, LO.frame hf h.row h3, h.d1, h.d2, h.d3, h.ok⟩
theorem readE_R (t : List UInt8) (ht : t.length ≤ 900000) : EnR (readE t).1 := by
 unfold readE
 split
 ·constructor <;> simp [zeroE, iR]
 ·exact rawE_R t ht
theorem down_all {N : List Nd} : ∀ (marks : List Int) (bits : List Nat) (all : Bool), (downB N marks bits all).2 = true → all = true ∧ ∀ m ∈ marks, (alook (hidx N) m).isSome = true
 | [], bits, all, h => ⟨h, fun m hm => by cases hm⟩
 | x :: r, bits, all, h => by
  rw [down_step] at h
  cases hal : alook (hidx N) x with
  | none => rw [hal] at h; have := (down_all r _ _ h).1; cases this
  | some i =>
   rw [hal] at h
   obtain ⟨h1, h2⟩ := down_all r _ _ h
   refine ⟨h1, fun m hm => ?_⟩
   rcases List.mem_cons.1 hm with rfl | hm
   ·rw [hal]; rfl
   ·exact h2 m hm
theorem levelB_bd {N : List Nd} (hN : NOk N) : ∀ (knows : List Int) (l : Int), (∀ m ∈ knows, (alook (hidx N) m).isSome = true) → 0 ≤ l → l ≤ N.length →
  0 ≤ knows.foldl (fun l m => max l ((nodeAt N ((alook (hidx N) m).getD 0)).level + 1)) l ∧ knows.foldl (fun l m => max l ((nodeAt N ((alook (hidx N) m).getD 0)).level + 1)) l ≤ N.length
 | [], l, _, h0, h1 => ⟨h0, h1⟩
 | x :: r, l, ha, h0, h1 => by
  obtain ⟨i, hi⟩ := Option.isSome_iff_exists.1 (ha x (by simp))
  obtain ⟨j, n, rfl, hj, _, hnj⟩ := hidx_spec hi
  have hjl := (List.getElem?_eq_some_iff.1 hj).1
  obtain ⟨_, _, q3, q4, _⟩ := hN.nd j n hj
  refine levelB_bd hN r _ (fun m hm => ha m (List.mem_cons_of_mem _ hm)) ?_ ?_
  ·simp only [hi, Option.getD_some, hnj]; omega
  ·simp only [hi, Option.getD_some, hnj]; omega
theorem hidx_snoc (N : List Nd) (n : Nd) : hidx (N ++ [n]) = hidx N ++ [(n.mark, (N.length : Int))] := by simp [hidx, List.zipIdx_append]
theorem rawQ_hF {st : St} {dst : Option Nat} {ty : TypeId} {pos : String} {after : Array Edge} {guard : Option (Nat × Bool)} {keys : Keys} {x i : Operand} {m : Nat} {N : List Nd} {mk : Int}
  (hx : opv st keys x = some (.s (.c (.x (.map (some m)))))) (hi : opv st keys i = some (.i mk)) (hm : ∀ w, Holds st w → MapAt vI vI w m (hidx N)) :
  RawQ Tryz.prog st keys { dst := dst, op := .lookup 79 x i false, type := ty, pos := pos, after := after, guard := guard } (.i ((alook (hidx N) mk).getD 0)) := by
 refine RawQ_den (rawQ_lookup (fV := CV.i) (z := .i 0) (c := false) (key := mk) kl3 ⟨mk, rfl⟩ (fun p _ => ⟨p.1, rfl⟩) vI_inj um59 z3 (fun _ => rfl) hx hi rfl hm) ?_
 cases alook (hidx N) mk <;> rfl
end Go.Proofs.YtdigebokbhmfaaaGreatDoor
namespace Go.Proofs.YtdigebokbhmfaaaGreatDoor
open Go.Vc Rt Go.Bs
set_option maxHeartbeats 2000000
structure AddTo (w w' : World) (h rb : Nat) (v v' : Value) (m : Nat) (Bs Bs' : List Nat) (M' : List NdV) : Prop where
 at' : HistAt w' h rb v' m Bs' M'
 fr : Fr (h :: (blkOf v ++ (m :: nub Bs))) w w'
 new : ∀ b, b ∈ blkOf v' ∨ b ∈ Bs' → (b ∈ blkOf v ∨ b ∈ Bs) ∨ w.heap.size ≤ b
theorem add_same {st : St} {w w' : World} {h rb m : Nat} {v : Value} {Bs : List Nat} {M : List NdV} {e : Int} {R : List SK} {k mk : Int} {t : List UInt8} (hw : Holds st w') (h0 : Vc.look st.hp 0 = some (.box h 81 [.x (ptr rb), .o 1 v, .x (.map (some m))])) (h1 : Vc.look st.hp 1 = some (.row v 86 18 (M.map encM)))
  (h2 : Vc.look st.hp 2 = some (mapO vI vI m (hidx (ndsM M)))) (h3 : Vc.look st.hp 3 = some (.ab Bs (relM Bs M))) (hS : st.S = h :: (blkOf v ++ (m :: nub Bs))) (hws : st.ws = w) (hd : (h :: (blkOf v ++ (m :: nub Bs))).Nodup)
  (hadd : addB R (ndsM M) k t mk = (ndsM M, e)) :
  ∃ v' Bs' M', Ending.returned (vI e) = .returned (vI (addB R (ndsM M) k t mk).2) ∧ ndsM M' = (addB R (ndsM M) k t mk).1 ∧ AddTo w w' h rb v v' m Bs Bs' M' :=
 ⟨v, Bs, M, by rw [hadd], by rw [hadd], ⟨⟨hw.box h0, hw.row h1, mapO_at (hw.objs _ (look_mem h2)), hw.objs _ (look_mem h3), hd⟩, by rw [← hS, ← hws]; exact hw.fr, fun b hb => .inl hb⟩⟩
theorem encO_ok {hp : List (Nat × LO)} {e : En} {n1 n2 n3 : Nat} {k y s : Value} (h1 : ∃ E size L, Vc.look hp n1 = some (.row k E size L)) (h2 : ∃ E size L, Vc.look hp n2 = some (.row y E size L)) (h3 : ∃ E size L, Vc.look hp n3 = some (.row s E size L)) : ∀ x ∈ encO e n1 k n2 y n3 s, CVokH hp x := by
 intro x hx
 simp only [List.mem_cons, List.not_mem_nil, or_false] at hx
 rcases hx with rfl | rfl | rfl | rfl | rfl | rfl | rfl | rfl | rfl | rfl | rfl | rfl | rfl <;> first | trivial | assumption
@[reducible] def encX (k : Int) (t : List UInt8) (mk : Int) (e : En) (ks ys ss pv : Value) (lev : Int) : List CV := [.i k, .s t, .i mk, .i e.author, .i e.seq, .i e.day, .o 5 ks, .i e.kind, .i e.circle, .i e.who, .i e.n, .i e.m, .i e.ref, .o 6 ys, .o 7 ss, .s e.text, .i lev, .o 9 pv]
theorem encX_ok {hp : List (Nat × LO)} {k mk lev : Int} {t : List UInt8} {e : En} {ks ys ss pv : Value} (h1 : ∃ E size L, Vc.look hp 5 = some (.row ks E size L)) (h2 : ∃ E size L, Vc.look hp 6 = some (.row ys E size L)) (h3 : ∃ E size L, Vc.look hp 7 = some (.row ss E size L)) (h4 : ∃ E size L, Vc.look hp 9 = some (.row pv E size L)) : ∀ x ∈ encX k t mk e ks ys ss pv lev, CVokH hp x := by
 intro x hx
 simp only [List.mem_cons, List.not_mem_nil, or_false] at hx
 rcases hx with rfl | rfl | rfl | rfl | rfl | rfl | rfl | rfl | rfl | rfl | rfl | rfl | rfl | rfl | rfl | rfl | rfl | rfl <;> first | trivial | assumption
theorem add_end {st : St} {w w' : World} {h rb m : Nat} {v v2 : Value} {Bs : List Nat} {M : List NdV} {k mk lev : Int} {t : List UInt8} {e : En} {past : List Nat} {ks ys ss pv : Value} (hw : Holds st w')
  (h0 : Vc.look st.hp 0 = some (.box h 81 [.x (ptr rb), .o 1 v2, .x (.map (some m))])) (h1 : Vc.look st.hp 1 = some (.row v2 86 18 (M.map encM ++ [encX k t mk e ks ys ss pv lev])))
  (h2 : Vc.look st.hp 2 = some (mapO vI vI m (hidx (ndsM M ++ [⟨k, t, mk, e, lev, past⟩])))) (h3 : Vc.look st.hp 3 = some (.ab Bs (relM Bs M)))
  (h5 : Vc.look st.hp 5 = some (.row ks 3 1 (e.knows.map encI))) (h6 : Vc.look st.hp 6 = some (.row ys 3 1 (e.keys.map encI))) (h7 : Vc.look st.hp 7 = some (.row ss 99 3 (e.spans.map encS))) (h9 : Vc.look st.hp 9 = some (.row pv 136 1 (past.map encW)))
  (hS : st.S = h :: (blkOf v ++ (m :: nub Bs))) (hws : st.ws = w) :
  AddTo w w' h rb v v2 m Bs (Bs ++ (blkOf ks ++ (blkOf ys ++ (blkOf ss ++ blkOf pv)))) (M ++ [(⟨k, t, mk, e, lev, past⟩, ks, ys, ss, pv)]) := by
 have key : ∀ (i : Nat) (o : LO), Vc.look st.hp i = some o → i ≠ 0 → i ≠ 2 → ∀ b ∈ o.blks, (b ∈ blkOf v ∨ b ∈ Bs) ∨ w.heap.size ≤ b := by
  intro i o hl hi0 hi2 b hb
  rcases hw.fresh hl b hb with hb' | hb'
  ·rw [hS] at hb'
   rcases List.mem_cons.1 hb' with rfl | hb'
   ·exact absurd hb (hw.apart h0 hl (Ne.symm hi0) _ (by simp [LO.blks]))
   ·rcases List.mem_append.1 hb' with hb' | hb'
    ·exact .inl (.inl hb')
    ·rcases List.mem_cons.1 hb' with rfl | hb'
     ·exact absurd hb (hw.apart h2 hl (Ne.symm hi2) _ (mem_nub.2 (by simp)))
     ·exact .inl (.inr (mem_nub.1 hb'))
  ·rw [hws] at hb'; exact .inr hb'
 have ap : ∀ (i : Nat) (o : LO), Vc.look st.hp i = some o → i < 3 → ∀ y ∈ o.blks, y ∉ Bs ++ (blkOf ks ++ (blkOf ys ++ (blkOf ss ++ blkOf pv))) := by
  intro i o hl hi y hy hm
  simp only [List.mem_append] at hm
  rcases hm with hm | hm | hm | hm | hm
  ·exact hw.apart hl h3 (by omega) y hy (mem_nub.2 hm)
  ·exact hw.apart hl h5 (by omega) y hy hm
  ·exact hw.apart hl h6 (by omega) y hy hm
  ·exact hw.apart hl h7 (by omega) y hy hm
  ·exact hw.apart hl h9 (by omega) y hy hm
 refine ⟨⟨hw.box h0, row_dens (hw.row h1) ?_ (by simp) ?_, by unfold ndsM; rw [List.map_append]; exact mapO_at (hw.objs _ (look_mem h2)), ⟨?_, ?_⟩, ?_⟩, ?_, ?_⟩
 ·simp only [List.map_append, List.flatten_append, dens]; rfl
 ·intro l hl
  obtain ⟨p, _, rfl⟩ := List.mem_map.1 hl; rfl
 ·intro b hb
  simp only [List.mem_append] at hb
  rcases hb with hb | hb | hb | hb | hb
  ·exact (hw.objs _ (look_mem h3)).1 b hb
  ·exact LO.blk_lt (hw.row h5) b hb
  ·exact LO.blk_lt (hw.row h6) b hb
  ·exact LO.blk_lt (hw.row h7) b hb
  ·exact LO.blk_lt (hw.row h9) b hb
 ·intro w'' ha p hp
  rcases List.mem_append.1 hp with hp | hp
  ·exact ((hw.objs _ (look_mem h3)).2 w'' (fun b hb => ha b (List.mem_append.2 (.inl hb))) p hp).more fun b hb => List.mem_append.2 (.inl hb)
  ·rw [List.mem_singleton.1 hp]
   refine ⟨row_agree (hw.row h5) fun b hb => ha b (by simp [hb]), row_agree (hw.row h6) fun b hb => ha b (by simp [hb]), row_agree (hw.row h7) fun b hb => ha b (by simp [hb]), row_agree (hw.row h9) fun b hb => ha b (by simp [hb]), fun b hb => ?_⟩
   simp only [List.mem_append]
   exact .inr hb
 ·refine List.nodup_cons.2 ⟨fun hm => ?_, List.nodup_append.2 ⟨blkOf_nodup _, List.nodup_cons.2 ⟨fun hm => ?_, nub_nodup _⟩, fun x hx y hy e => ?_⟩⟩
  ·rcases List.mem_append.1 hm with hm | hm
   ·exact hw.apart h0 h1 (by decide) h (by simp [LO.blks]) hm
   ·rcases List.mem_cons.1 hm with hm | hm
    ·exact hw.apart h0 h2 (by decide) h (by simp [LO.blks]) (mem_nub.2 (by simp [hm]))
    ·exact ap 0 _ h0 (by decide) h (by simp [LO.blks]) (mem_nub.1 hm)
  ·exact ap 2 _ h2 (by decide) m (mem_nub.2 (by simp)) (mem_nub.1 hm)
  ·subst e
   rcases List.mem_cons.1 hy with hy | hy
   ·exact hw.apart h1 h2 (by decide) x hx (mem_nub.2 (by simp [hy]))
   ·exact ap 1 _ h1 (by decide) x hx (mem_nub.1 hy)
 ·have := hw.fr; rw [hS, hws] at this; exact this
 ·intro b hb
  rcases hb with hb | hb
  ·exact key 1 _ h1 (by decide) (by decide) b hb
  ·simp only [List.mem_append] at hb
   rcases hb with hb | hb | hb | hb | hb
   ·exact .inl (.inr hb)
   ·exact key 5 _ h5 (by decide) (by decide) b hb
   ·exact key 6 _ h6 (by decide) (by decide) b hb
   ·exact key 7 _ h7 (by decide) (by decide) b hb
   ·exact key 9 _ h9 (by decide) (by decide) b hb
theorem rd1p {E size : Nat} {L : List (List CV)} {v : SV} (h : NoP L) (hv : noPsv v = true) : rdOk [.row E size L, .p v] := ⟨h, hv, trivial⟩
theorem add_c (h rb : Nat) (v : Value) (m : Nat) (Bs : List Nat) (M : List NdV) (hN : NOk (ndsM M)) (vr : Value) (mr : Nat) (R : List SK) (k mk : Int) (t : List UInt8) (hk : okSK (k, t)) (ht : t.length ≤ 900000) (w : World) (hG : Gl w)
  (H : HistAt w h rb v m Bs M) (HRg : RingAt w rb vr mr R) (h8 : ∀ b ∈ h :: (blkOf v ++ (m :: nub Bs)), 8 ≤ b)
  (hd1 : rb ∉ h :: (blkOf v ++ (m :: nub Bs))) (hd2 : mr ∉ h :: (blkOf v ++ (m :: nub Bs))) (hd3 : ∀ x ∈ blkOf vr, x ∉ h :: (blkOf v ++ (m :: nub Bs))) :
  Calls Tryz.prog 26 #[ptr h, vSg k t mk] w (fun e w' => ∃ v' Bs' M', e = .returned (vI (addB R (ndsM M) k t mk).2) ∧ ndsM M' = (addB R (ndsM M) k t mk).1 ∧ AddTo w w' h rb v v' m Bs Bs' M') := by
 have hNl := hN.len
 have hMl := ndsM_len M
 have hvs := ownsAt_slice H.row.1
 have hobj : ∀ o ∈ [(0, LO.box h 81 [.x (ptr rb), .o 1 v, .x (.map (some m))]), (1, LO.row v 86 18 (M.map encM)), (2, mapO vI vI m (hidx (ndsM M))), (3, LO.ab Bs (relM Bs M))], o.2.holds w := fun o ho => by
  simp only [List.mem_cons, List.not_mem_nil, or_false] at ho
  rcases ho with rfl | rfl | rfl | rfl
  ·exact H.box
  ·exact H.row
  ·exact mapO_holds H.map
  ·exact H.rel
 have hS : ([(0, LO.box h 81 [.x (ptr rb), .o 1 v, .x (.map (some m))]), (1, LO.row v 86 18 (M.map encM)), (2, mapO vI vI m (hidx (ndsM M))), (3, LO.ab Bs (relM Bs M))].flatMap fun o => o.2.blks) = h :: (blkOf v ++ (m :: nub Bs)) := by simp [LO.blks, mapO, nub]
 have hen := enter_objs (N := Tryz.f26.ntmps) (l := [.s (.c (.p 0 h 0)), .s (.agg [.i k, .s t, .i mk])]) (hp := [(0, LO.box h 81 [.x (ptr rb), .o 1 v, .x (.map (some m))]), (1, LO.row v 86 18 (M.map encM)), (2, mapO vI vI m (hidx (ndsM M))), (3, LO.ab Bs (relM Bs M))]) hobj (by rw [hS]; exact H.dis)
 rw [hS] at hen
 refine calls_atB [.s (.c (.p 0 h 0)), .s (.agg [.i k, .s t, .i mk])] [(0, LO.box h 81 [.x (ptr rb), .o 1 v, .x (.map (some m))]), (1, LO.row v 86 18 (M.map encM)), (2, mapO vI vI m (hidx (ndsM M))), (3, LO.ab Bs (relM Bs M))] (h :: (blkOf v ++ (m :: nub Bs))) Tryz.func26 rfl rfl (Nat.le_of_ble_eq_true rfl)
  (WF.objs hen ⟨⟨_, _, rfl⟩, trivial⟩ ⟨fun c hc => by simp at hc; rcases hc with rfl | rfl | rfl <;> first | exact ⟨_, _, _, rfl⟩ | trivial, (nopM _).okH, trivial⟩) hen fun B hB => ?_
 repeat refine zq ?_
 refine zr ?_; conv => whnf
 intro b3; conv => whnf
 repeat refine zq ?_
 refine At.draw tab_ok mixed (by kernel_rfl) ?_; conv => whnf
 refine ⟨.b (validR R k t mk), gimp_of (ans_quiet b54 (fun w' hw => valid_sc rb vr mr R k mk t hk w' (HRg.fr hw.fr hd1 hd2 hd3))), ?_⟩; conv => whnf
 repeat refine zq ?_
 cases hvd : validR R k t mk with
 | false =>
  refine At.cond (t := true) rfl (fun _ => ?_) (fun hq => by cases hq)
  repeat refine zq ?_
  refine zr ?_; conv => whnf
  repeat refine zq ?_
  refine At.ret (At.doneB tab_ok hB _ rfl fun w' hw => add_same hw rfl rfl rfl rfl rfl rfl H.dis (by unfold addB; rw [if_pos (by rw [hvd]; rfl)]))
 | true =>
 refine At.cond (t := false) rfl (fun hq => by cases hq) (fun _ => At.skip ?_)
 repeat refine zq ?_
 refine zr ?_; conv => whnf
 refine read_call ht (fun w' hw => hG.fr hw.fr h8) ?_
 intro ks ys ss; conv => whnf
 intro b5; conv => whnf
 repeat refine zq ?_
 refine zr ?_; conv => whnf
 have hER := readE_R t ht
 have hlk := hER.lk
 have hly := hER.ly
 have hls := hER.ls
 have hlt := hER.lt
 generalize hre : readE t = re at hER hlk hly hls hlt ⊢
 obtain ⟨e, er⟩ := re
 simp only at hER hlk hly hls hlt ⊢
 repeat refine zq ?_
 refine At.cond rfl (fun hq => ?_) (fun hq => At.skip ?_)
 ·have hq' : er ≠ 0 ∨ e.author ≠ k := by simpa [bor] using hq
  repeat refine zq ?_
  refine zr ?_; conv => whnf
  repeat refine zq ?_
  refine At.ret (At.doneB tab_ok hB _ rfl fun w' hw => add_same hw rfl rfl rfl rfl rfl rfl H.dis (by unfold addB; rw [if_neg (by rw [hvd]; decide), if_pos (by rw [hre]; exact hq')]))
 have hq1 : ¬ (er ≠ 0 ∨ e.author ≠ k) := by simpa [bor] using hq
 clear hq
 repeat refine zq ?_
 refine zr ?_; conv => whnf
 refine ans_call b15 rfl (fun w' hw => has_r h rb (ndsM M) mk w' (hr_of hw rfl rfl rfl rfl hN)) ?_; conv => whnf
 repeat refine zq ?_
 cases hal : alook (hidx (ndsM M)) mk with
 | some i0 =>
  refine At.cond (t := true) rfl (fun _ => ?_) (fun hq => by cases hq)
  repeat refine zq ?_
  refine zr ?_; conv => whnf
  repeat refine zq ?_
  refine At.ret (At.doneB tab_ok hB _ rfl fun w' hw => add_same hw rfl rfl rfl rfl rfl rfl H.dis (by unfold addB; rw [if_neg (by rw [hvd]; decide), if_neg (by rw [hre]; exact hq1), if_pos (by rw [hal]; rfl)]))
 | none =>
 refine At.cond (t := false) rfl (fun hq => by cases hq) (fun _ => At.skip ?_)
 repeat refine zq ?_
 refine zr ?_; conv => whnf
 refine ansR_call b35 (rd1p (nopW _) rfl) (fun w' hw => down_r h rb (ndsM M) hN e.knows ks w' (hr_of hw rfl rfl rfl rfl hN) (slI _ (hw.row (id := 5) rfl) hlk) hlk) ?_
 intro pv; conv => whnf
 obtain ⟨hpo, hpl⟩ := down_ok hN e.knows [] true (fun x hx => by cases hx) (by simp)
 generalize hdn : downB (ndsM M) e.knows [] true = dn at hpo hpl ⊢
 obtain ⟨past, all⟩ := dn
 simp only at hpo hpl ⊢
 repeat refine zq ?_
 refine zr ?_; conv => whnf
 repeat refine zq ?_
 cases all with
 | false =>
  refine At.cond (t := true) rfl (fun _ => ?_) (fun hq => by cases hq)
  repeat refine zq ?_
  refine zr ?_; conv => whnf
  repeat refine zq ?_
  refine At.ret (At.doneB tab_ok hB _ rfl fun w' hw => add_same hw rfl rfl rfl rfl rfl rfl H.dis (by unfold addB; rw [if_neg (by rw [hvd]; decide), if_neg (by rw [hre]; exact hq1), if_neg (by rw [hal]; decide), if_pos (by rw [hre, hdn]; rfl)]))
 | true =>
 refine At.cond (t := false) rfl (fun hq => by cases hq) (fun _ => At.skip ?_)
 repeat refine zq ?_
 refine zr ?_; conv => whnf
 repeat refine zq ?_
 refine At.join (fun u : Unit => { N := Tryz.f26.ntmps, sl := [(0, some (.s (.c (.p 0 h 0)))), (3, some (.s (.c (.p 4 b3 0)))), (5, some (.s (.c (.p 8 b5 0)))), (7, some (.s (.c (.o 9 pv))))], gl := [], hp := [(9, .row pv 136 1 (past.map encW)), (8, LO.box b5 40 (encO e 5 ks 6 ys 7 ss)), (7, .row ss 99 3 (e.spans.map encS)), (6, .row ys 3 1 (e.keys.map encI)), (5, .row ks 3 1 (e.knows.map encI)), (4, .box b3 67 [.i k, .s t, .i mk]), (0, .box h 81 [.x (ptr rb), .o 1 v, .x (.map (some m))]), (1, .row v 86 18 (M.map encM)), (2, mapO vI vI m (hidx (ndsM M))), (3, LO.ab Bs (relM Bs M))], S := (h :: (blkOf v ++ (m :: nub Bs))), ws := w }) (fun u : Unit => ¬ ((e.ref ≠ -1 ∧ e.kind ≠ 8) ∧ (!refB (ndsM M) past e.ref) = true)) ?_ ?_
 ·refine At.cond rfl (fun hq => ?_) (fun hq => At.skip ?_)
  ·have hq2 : e.ref ≠ -1 ∧ e.kind ≠ 8 := by simpa [band] using hq
   repeat refine zq ?_
   refine At.draw tab_ok mixed (by kernel_rfl) ?_; conv => whnf
   refine ⟨.tup [.c (.i ((alook (hidx (ndsM M)) e.ref).getD 0)), .c (.b (alook (hidx (ndsM M)) e.ref).isSome)], gimp_of (rawQ_h rfl rfl (fun w' hw => mapO_at (hw.objs _ (look_mem (s := 2) rfl)))), ?_⟩; conv => whnf
   cases har : alook (hidx (ndsM M)) e.ref with
   | none =>
    have hrf : refB (ndsM M) past e.ref = false := by unfold refB; rw [har]
    repeat refine zq ?_
    refine At.regionG tab_ok ?_; conv => whnf
    repeat refine zq ?_
    refine At.cond (t := true) rfl (fun _ => ?_) (fun hq => by cases hq)
    repeat refine zq ?_
    refine zr ?_; conv => whnf
    repeat refine zq ?_
    refine At.ret (At.doneB tab_ok hB _ rfl fun w' hw => add_same hw rfl rfl rfl rfl rfl rfl H.dis (by unfold addB; rw [if_neg (by rw [hvd]; decide), if_neg (by rw [hre]; exact hq1), if_neg (by rw [hal]; decide), if_neg (by rw [hre, hdn]; simp), if_pos (by rw [hre, hdn]; exact ⟨hq2, by rw [hrf]; rfl⟩)]))
   | some ri =>
    obtain ⟨ri, nr, rfl, hri, _, hnr⟩ := hidx_spec har
    have hril := (List.getElem?_eq_some_iff.1 hri).1
    have hrf : refB (ndsM M) past e.ref = testB past ri := by unfold refB; rw [har]; simp only [Int.toNat_natCast]
    repeat refine zq ?_
    refine At.regionG tab_ok ?_; conv => whnf
    refine ans_call b36 rfl (fun w' hw => test_c past hpo ri [] pv w' (SlOf.of_row (enc := encW) (hw.row (id := 9) rfl) (fun _ _ => nilS) (by omega)) (by omega)) ?_; conv => whnf
    repeat refine zq ?_
    cases htb : testB past ri with
    | false =>
     refine At.cond (t := true) rfl (fun _ => ?_) (fun hq => by cases hq)
     repeat refine zq ?_
     refine zr ?_; conv => whnf
     repeat refine zq ?_
     refine At.ret (At.doneB tab_ok hB _ rfl fun w' hw => add_same hw rfl rfl rfl rfl rfl rfl H.dis (by unfold addB; rw [if_neg (by rw [hvd]; decide), if_neg (by rw [hre]; exact hq1), if_neg (by rw [hal]; decide), if_neg (by rw [hre, hdn]; simp), if_pos (by rw [hre, hdn]; exact ⟨hq2, by rw [hrf, htb]; rfl⟩)]))
    | true =>
     refine At.cond (t := false) rfl (fun hq => by cases hq) (fun _ => At.skip ?_)
     refine At.meet fun w' hw => ⟨(), (by intro hh; have := hh.2; rw [hrf, htb] at this; cases this), Le.of rfl rfl ⟨rfl, rfl, rfl, rfl, trivial⟩, hw.keep [9, 8, 7, 6, 5, 4, 0, 1, 2, 3] rfl rfl rfl, ⟨⟨_, _, rfl⟩, ⟨_, _, rfl⟩, ⟨_, _, rfl⟩, ⟨_, _, _, rfl⟩, trivial⟩, ⟨(nopW _).okH, encO_ok ⟨_, _, _, rfl⟩ ⟨_, _, _, rfl⟩ ⟨_, _, _, rfl⟩, (nopS _).okH, (nopI _).okH, (nopI _).okH, fun c hc => by simp at hc; rcases hc with rfl | rfl | rfl <;> first | exact ⟨_, _, _, rfl⟩ | exact ⟨_, _, rfl⟩ | trivial, (nopM _).okH, trivial⟩⟩
  ·have hq2 : ¬ (e.ref ≠ -1 ∧ e.kind ≠ 8) := by simpa [band] using hq
   refine At.meet fun w' hw => ⟨(), (by intro hh; exact hq2 hh.1), Le.of rfl rfl ⟨rfl, rfl, rfl, rfl, trivial⟩, hw.keep [9, 8, 7, 6, 5, 4, 0, 1, 2, 3] rfl rfl rfl, ⟨⟨_, _, rfl⟩, ⟨_, _, rfl⟩, ⟨_, _, rfl⟩, ⟨_, _, _, rfl⟩, trivial⟩, ⟨(nopW _).okH, encO_ok ⟨_, _, _, rfl⟩ ⟨_, _, _, rfl⟩ ⟨_, _, _, rfl⟩, (nopS _).okH, (nopI _).okH, (nopI _).okH, fun c hc => by simp at hc; rcases hc with rfl | rfl | rfl <;> first | exact ⟨_, _, _, rfl⟩ | exact ⟨_, _, rfl⟩ | trivial, (nopM _).okH, trivial⟩⟩
 rintro ⟨⟩ hJ
 repeat refine zq ?_
 refine zr ?_; conv => whnf
 refine ⟨rfl, ?_⟩; conv => whnf
 repeat refine zq ?_
 refine At.cond rfl (fun hq => ?_) (fun hq => At.skip ?_)
 ·have hq2 : 4000 ≤ (ndsM M).length := by rw [hMl]; have := of_decide_eq_true hq; simp at this; omega
  repeat refine zq ?_
  refine zr ?_; conv => whnf
  repeat refine zq ?_
  refine At.ret (At.doneB tab_ok hB _ rfl fun w' hw => add_same hw rfl rfl rfl rfl rfl rfl H.dis (by unfold addB; rw [if_neg (by rw [hvd]; decide), if_neg (by rw [hre]; exact hq1), if_neg (by rw [hal]; decide), if_neg (by rw [hre, hdn]; simp), if_neg (by rw [hre, hdn]; exact hJ), if_pos hq2]))
 have hq2 : M.length < 4000 := by have := of_decide_eq_false hq; simp at this; omega
 clear hq
 have hknown := (down_all e.knows [] true (by rw [hdn])).2
 have hadd : addB R (ndsM M) k t mk = (ndsM M ++ [⟨k, t, mk, e, levelB (ndsM M) e.knows, past⟩], 0) := by
  unfold addB; rw [if_neg (by rw [hvd]; decide), if_neg (by rw [hre]; exact hq1), if_neg (by rw [hal]; decide), if_neg (by rw [hre, hdn]; simp), if_neg (by rw [hre, hdn]; exact hJ), if_neg (by omega), hre, hdn]
 repeat refine zq ?_
 refine zr ?_; conv => whnf
 intro b11; conv => whnf
 repeat refine zq ?_
 refine zr ?_; conv => whnf
 refine ⟨rfl, ?_⟩; conv => whnf
 repeat refine zq ?_
 refine At.block ?_
 refine At.loopH (fun j : Nat => { N := Tryz.f26.ntmps, sl := [(0, some (.s (.c (.p 0 h 0)))), (3, some (.s (.c (.p 4 b3 0)))), (11, some (.s (.c (.p 10 b11 0)))), (86, some (.s (.c (.o 5 ks)))), (87, some (.i e.knows.length)), (88, some (.i j))], gl := [], hp := [(10, LO.box b11 86 (encX k t mk e ks ys ss pv (levelB (ndsM M) (e.knows.take j)))), (9, .row pv 136 1 (past.map encW)), (7, .row ss 99 3 (e.spans.map encS)), (6, .row ys 3 1 (e.keys.map encI)), (5, .row ks 3 1 (e.knows.map encI)), (4, .box b3 67 [.i k, .s t, .i mk]), (0, .box h 81 [.x (ptr rb), .o 1 v, .x (.map (some m))]), (1, .row v 86 18 (M.map encM)), (2, mapO vI vI m (hidx (ndsM M))), (3, LO.ab Bs (relM Bs M))], S := (h :: (blkOf v ++ (m :: nub Bs))), ws := w }) (fun j : Nat => j ≤ e.knows.length) (fun j : Nat => e.knows.length - j)
  (fun w' hw => ⟨0, Nat.zero_le _, Le.of rfl rfl ⟨rfl, rfl, rfl, rfl, congrArg (Value.int .i64) (by simp), rfl, trivial⟩, hw.keep [10, 9, 7, 6, 5, 4, 0, 1, 2, 3] rfl rfl rfl, ⟨⟨_, _, rfl⟩, ⟨_, _, rfl⟩, ⟨_, _, rfl⟩, ⟨_, _, _, rfl⟩, trivial⟩, ⟨encX_ok ⟨_, _, _, rfl⟩ ⟨_, _, _, rfl⟩ ⟨_, _, _, rfl⟩ ⟨_, _, _, rfl⟩, (nopW _).okH, (nopS _).okH, (nopI _).okH, (nopI _).okH, fun c hc => by simp at hc; rcases hc with rfl | rfl | rfl <;> first | exact ⟨_, _, _, rfl⟩ | exact ⟨_, _, rfl⟩ | trivial, (nopM _).okH, trivial⟩⟩) ?_
 intro j hj
 repeat refine zq ?_
 refine zr ?_; conv => whnf
 repeat refine zq ?_
 refine At.cond rfl (fun hc => At.skip ?_) (fun hc => At.exit ?_)
 ·have hlt : j < e.knows.length := by have := of_decide_eq_true hc; omega
  obtain ⟨x, hx⟩ : ∃ x, e.knows[j]? = some x := ⟨_, List.getElem?_eq_getElem hlt⟩
  have hlt : j < e.knows.length := by have := of_decide_eq_true hc; omega
  obtain ⟨hl0, hl1⟩ := levelB_bd hN (e.knows.take j) 0 (fun m hm => hknown m (List.mem_of_mem_take hm)) (Int.le_refl _) (by omega)
  obtain ⟨i, hi⟩ := Option.isSome_iff_exists.1 (hknown x (List.mem_of_getElem? hx))
  obtain ⟨i, n, rfl, hi2, _, hni⟩ := hidx_spec hi
  obtain ⟨p, hp, hpn⟩ := ndsM_get' hi2
  have hil := (List.getElem?_eq_some_iff.1 hp).1
  obtain ⟨_, _, q3, q4, _⟩ := hN.nd i n hi2
  have hlv : levelB (ndsM M) (e.knows.take (j + 1)) = max (levelB (ndsM M) (e.knows.take j)) (p.1.level + 1) := by
   rw [take_snoc hx]; unfold levelB; rw [List.foldl_append]; simp only [List.foldl_cons, List.foldl_nil, hi, Option.getD_some, hni, hpn]
  rw [← hpn] at q3 q4
  change 0 ≤ levelB (ndsM M) (e.knows.take j) at hl0
  change levelB (ndsM M) (e.knows.take j) ≤ _ at hl1
  generalize levelB (ndsM M) (e.knows.take j) = lev at hl0 hl1 hlv ⊢
  repeat refine zq ?_
  refine At.block ?_
  repeat refine zq ?_
  refine zr ?_; conv => whnf
  refine ⟨rfl, ?_⟩; conv => whnf
  refine ⟨by omega, ?_⟩; conv => whnf
  refine ⟨by (try simp only [List.length_map]); omega, ?_⟩; conv => whnf
  refine ⟨encI x, ⟨rfl, rfl, by omega, by rw [Int.toNat_natCast, List.getElem?_map, hx]; rfl⟩, ?_⟩; conv => whnf
  repeat refine zq ?_
  refine At.planG tab_ok mixed [(0, .box h 81 [.x (ptr rb), .o 1 v, .x (.map (some m))]), (1, .row v 86 18 (M.map encM))] (.take 0 (.take 2 (.take 3 (.take 4 (.take 5 (.take 6 (.take 7 (.take 8 (.take 9 (.take 10 (.br 1 (.br 11 (.take 12 (.take 13 (.take 14 (.take 15 (.take 16 (.take 17 (.br 18 (.done) (.nob)))))))) (.nob)) (.br 11 (.take 12 (.take 13 (.take 14 (.take 15 (.br 1 (.take 16 (.take 17 (.br 18 (.done) (.nob)))) (.nob)))))) (.nob))))))))))))) (by kernel_rfl) (by kernel_rfl) ⟨rfl, rfl, trivial⟩ ?_; conv => whnf
  refine ⟨?_, ?_, trivial⟩
  ·conv => whnf
   refine ⟨⟨⟨rfl, rfl, trivial⟩, fun w' hw => hw.fr⟩, ?_⟩; conv => whnf
   refine ⟨?_, trivial⟩; conv => whnf
   refine ⟨.i ((alook (hidx (ndsM M)) x).getD 0), gimp_of (rawQ_hF rfl rfl (fun w' hw => mapO_at (hw.objs _ (look_mem (s := 2) rfl)))), ?_⟩; conv => whnf
   rw [hi]
   refine ⟨⟨⟨rfl, rfl, trivial⟩, fun w' hw => hw.fr⟩, ?_⟩; conv => whnf
   refine ⟨rfl, ?_⟩; conv => whnf
   refine ⟨by simp only [Option.getD_some]; omega, ?_⟩; conv => whnf
   refine ⟨by simp only [Option.getD_some, List.length_map]; omega, ?_⟩; conv => whnf
   refine ⟨encM p, ⟨rfl, rfl, by simp only [Option.getD_some]; omega, by rw [Option.getD_some, Int.toNat_natCast, List.getElem?_map, hp]; rfl⟩, ?_⟩; conv => whnf
   refine ⟨⟨by omega, by omega⟩, ?_⟩; conv => whnf
   refine ⟨?_, trivial⟩; conv => whnf
   refine ⟨⟨⟨rfl, rfl, trivial⟩, fun w' hw => hw.fr⟩, ?_⟩; conv => whnf
   repeat refine zq ?_
   refine zr ?_; conv => whnf
   refine ⟨⟨by omega, by omega⟩, ?_⟩; conv => whnf
   refine At.nextH fun w' hw => ⟨j + 1, by omega, by omega, Le.of rfl rfl ⟨rfl, rfl, rfl, rfl, rfl, rfl, trivial⟩, hw.keep [10, 9, 7, 6, 5, 4, 0, 1, 2, 3] (by simp only [hlv]; rfl) rfl rfl, ⟨⟨_, _, rfl⟩, ⟨_, _, rfl⟩, ⟨_, _, rfl⟩, ⟨_, _, _, rfl⟩, trivial⟩, ⟨encX_ok ⟨_, _, _, rfl⟩ ⟨_, _, _, rfl⟩ ⟨_, _, _, rfl⟩ ⟨_, _, _, rfl⟩, (nopW _).okH, (nopS _).okH, (nopI _).okH, (nopI _).okH, fun c hc => by simp at hc; rcases hc with rfl | rfl | rfl <;> first | exact ⟨_, _, _, rfl⟩ | exact ⟨_, _, rfl⟩ | trivial, (nopM _).okH, trivial⟩⟩
  ·conv => whnf
   refine ⟨.i ((alook (hidx (ndsM M)) x).getD 0), gimp_of (rawQ_hF rfl rfl (fun w' hw => mapO_at (hw.objs _ (look_mem (s := 2) rfl)))), ?_⟩; conv => whnf
   rw [hi]
   refine ⟨⟨⟨rfl, rfl, trivial⟩, fun w' hw => hw.fr⟩, ?_⟩; conv => whnf
   refine ⟨rfl, ?_⟩; conv => whnf
   refine ⟨by simp only [Option.getD_some]; omega, ?_⟩; conv => whnf
   refine ⟨by simp only [Option.getD_some, List.length_map]; omega, ?_⟩; conv => whnf
   refine ⟨encM p, ⟨rfl, rfl, by simp only [Option.getD_some]; omega, by rw [Option.getD_some, Int.toNat_natCast, List.getElem?_map, hp]; rfl⟩, ?_⟩; conv => whnf
   refine ⟨⟨by omega, by omega⟩, ?_⟩; conv => whnf
   refine ⟨?_, trivial⟩; conv => whnf
   refine ⟨⟨⟨rfl, rfl, trivial⟩, fun w' hw => hw.fr⟩, ?_⟩; conv => whnf
   refine ⟨?_, trivial⟩; conv => whnf
   refine ⟨⟨⟨rfl, rfl, trivial⟩, fun w' hw => hw.fr⟩, ?_⟩; conv => whnf
   repeat refine zq ?_
   refine zr ?_; conv => whnf
   refine ⟨⟨by omega, by omega⟩, ?_⟩; conv => whnf
   refine At.nextH fun w' hw => ⟨j + 1, by omega, by omega, Le.of rfl rfl ⟨rfl, rfl, rfl, rfl, rfl, rfl, trivial⟩, hw.keep [10, 9, 7, 6, 5, 4, 0, 1, 2, 3] (by simp only [hlv]; rfl) rfl rfl, ⟨⟨_, _, rfl⟩, ⟨_, _, rfl⟩, ⟨_, _, rfl⟩, ⟨_, _, _, rfl⟩, trivial⟩, ⟨encX_ok ⟨_, _, _, rfl⟩ ⟨_, _, _, rfl⟩ ⟨_, _, _, rfl⟩ ⟨_, _, _, rfl⟩, (nopW _).okH, (nopS _).okH, (nopI _).okH, (nopI _).okH, fun c hc => by simp at hc; rcases hc with rfl | rfl | rfl <;> first | exact ⟨_, _, _, rfl⟩ | exact ⟨_, _, rfl⟩ | trivial, (nopM _).okH, trivial⟩⟩
 ·have hge : j = e.knows.length := by have := of_decide_eq_false hc; omega
  subst hge
  rw [List.take_length]
  generalize hlev : levelB (ndsM M) e.knows = lev at hadd ⊢
  have hput : aput (hidx (ndsM M)) mk ((ndsM M).length : Int) = hidx (ndsM M ++ [⟨k, t, mk, e, lev, past⟩]) := by rw [hidx_snoc, aput, hal]; rfl
  repeat refine zq ?_
  refine At.planG tab_ok mixed [(0, .box h 81 [.x (ptr rb), .o 1 v, .x (.map (some m))]), (4, .box b3 67 [.i k, .s t, .i mk]), (1, .row v 86 18 (M.map encM))] (.take 0 (.take 1 (.take 2 (.take 3 (.take 4 (.take 5 (.take 6 (.take 7 (.take 8 (.take 9 (.take 10 (.br 11 (.done) (.nob))))))))))))) (by kernel_rfl) (by kernel_rfl) ⟨rfl, rfl, rfl, trivial⟩ ?_; conv => whnf
  refine ⟨rfl, ?_⟩; conv => whnf
  refine ⟨?_, trivial⟩; conv => whnf
  refine rawE_update (id := 2) (key := mk) (v := ((ndsM M).length : Int)) kl3 ⟨mk, rfl⟩ (fun p _ => ⟨p.1, rfl⟩) vI_inj um59 rfl rfl rfl rfl (congrArg (Value.int .i64) (by simp [ndsM])) rfl ?_; conv => whnf
  refine ⟨⟨⟨rfl, rfl, rfl, trivial⟩, fun w' hw => hw.fr⟩, ?_⟩; conv => whnf
  rw [hput]
  repeat refine zq ?_
  refine At.planG tab_ok mixed [(10, LO.box b11 86 (encX k t mk e ks ys ss pv lev))] (.take 0 (.take 1 (.take 2 (.take 3 (.take 5 (.br 4 (.br 6 (.br 7 (.take 8 (.take 9 (.br 10 (.done) (.nob)))) (.nob)) (.nob)) (.br 6 (.br 4 (.br 7 (.take 8 (.take 9 (.br 10 (.done) (.nob)))) (.nob)) (.nob)) (.nob)))))))) (by kernel_rfl) (by kernel_rfl) ⟨rfl, trivial⟩ ?_; conv => whnf
  refine ⟨?_, ?_, trivial⟩
  ·conv => whnf
   refine ⟨⟨⟨rfl, trivial⟩, fun w' hw => hw.fr⟩, ?_⟩; conv => whnf
   refine ⟨?_, trivial⟩; conv => whnf
   intro v12; conv => whnf
   refine ⟨⟨⟨rfl, trivial⟩, fun w' hw => hw.fr⟩, ?_⟩; conv => whnf
   refine ⟨?_, trivial⟩; conv => whnf
   refine ⟨rfl, ?_⟩; conv => whnf
   refine ⟨⟨rfl, by simp; omega⟩, ?_⟩; conv => whnf
   intro v13; conv => whnf
   refine ⟨⟨⟨rfl, trivial⟩, fun w' hw => hw.fr⟩, ?_⟩; conv => whnf
   refine ⟨?_, trivial⟩; conv => whnf
   refine ⟨⟨⟨rfl, trivial⟩, fun w' hw => hw.fr⟩, ?_⟩; conv => whnf
   repeat refine zq ?_
   refine zr ?_; conv => whnf
   repeat refine zq ?_
   refine At.ret (At.doneB tab_ok hB _ rfl fun w' hw => ?_)
   rw [hadd]
   exact ⟨v13, _, _, rfl, by simp [ndsM], add_end hw rfl rfl rfl rfl rfl rfl rfl rfl rfl rfl⟩
  ·conv => whnf
   intro v12; conv => whnf
   refine ⟨⟨⟨rfl, trivial⟩, fun w' hw => hw.fr⟩, ?_⟩; conv => whnf
   refine ⟨?_, trivial⟩; conv => whnf
   refine ⟨⟨⟨rfl, trivial⟩, fun w' hw => hw.fr⟩, ?_⟩; conv => whnf
   refine ⟨?_, trivial⟩; conv => whnf
   refine ⟨rfl, ?_⟩; conv => whnf
   refine ⟨⟨rfl, by simp; omega⟩, ?_⟩; conv => whnf
   intro v13; conv => whnf
   refine ⟨⟨⟨rfl, trivial⟩, fun w' hw => hw.fr⟩, ?_⟩; conv => whnf
   refine ⟨?_, trivial⟩; conv => whnf
   refine ⟨⟨⟨rfl, trivial⟩, fun w' hw => hw.fr⟩, ?_⟩; conv => whnf
   repeat refine zq ?_
   refine zr ?_; conv => whnf
   repeat refine zq ?_
   refine At.ret (At.doneB tab_ok hB _ rfl fun w' hw => ?_)
   rw [hadd]
   exact ⟨v13, _, _, rfl, by simp [ndsM], add_end hw rfl rfl rfl rfl rfl rfl rfl rfl rfl rfl⟩
end Go.Proofs.YtdigebokbhmfaaaGreatDoor
namespace Go.Proofs.YtdigebokbhmfaaaGreatDoor
open Go.Vc Rt Go.Bs
def partsH (h : Nat) (v : Value) (m : Nat) (Bs : List Nat) : List Nat := h :: (blkOf v ++ (m :: nub Bs))
theorem HistAt.agree {w w' : World} {h rb m : Nat} {v : Value} {Bs : List Nat} {M : List NdV} (H : HistAt w h rb v m Bs M) (ha : ∀ b ∈ partsH h v m Bs, w'.heap[b]? = w.heap[b]?) : HistAt w' h rb v m Bs M := by
 have a2 : ∀ b ∈ blkOf v, w'.heap[b]? = w.heap[b]? := fun b hb => ha b (List.mem_cons_of_mem _ (List.mem_append.2 (.inl hb)))
 have a3 : w'.heap[m]? = w.heap[m]? := ha m (List.mem_cons_of_mem _ (List.mem_append.2 (.inr (List.mem_cons_self ..))))
 have a4 : ∀ b ∈ Bs, w'.heap[b]? = w.heap[b]? := fun b hb => ha b (List.mem_cons_of_mem _ (List.mem_append.2 (.inr (List.mem_cons_of_mem _ (mem_nub.2 hb)))))
 have hlt : ∀ b, b < w.heap.size → w'.heap[b]? = w.heap[b]? → b < w'.heap.size := fun b hb e => by
  rw [Array.getElem?_eq_getElem hb] at e
  exact (Array.getElem?_eq_some_iff.1 e).1
 refine ⟨(ha h (List.mem_cons_self ..)).trans H.box, row_agree H.row a2, ?_, ⟨fun b hb => hlt b (H.rel.1 b hb) (a4 b hb), fun w'' hs => H.rel.2 w'' fun b hb => (hs b hb).trans (a4 b hb)⟩, H.dis⟩
 obtain ⟨es, c, h1, h2⟩ := H.map
 exact ⟨es, c, a3.trans h1, h2⟩
theorem HistAt.lt {w : World} {h rb m : Nat} {v : Value} {Bs : List Nat} {M : List NdV} (H : HistAt w h rb v m Bs M) : ∀ b ∈ partsH h v m Bs, b < w.heap.size := by
 intro b hb
 rcases List.mem_cons.1 hb with rfl | hb
 ·exact (Array.getElem?_eq_some_iff.1 H.box).1
 ·rcases List.mem_append.1 hb with hb | hb
  ·exact LO.blk_lt H.row b hb
  ·rcases List.mem_cons.1 hb with rfl | hb
   ·exact mapAt_lt H.map
   ·exact H.rel.1 b (mem_nub.1 hb)
def HistQ (h rb : Nat) (B : List Nat) (N : List Nd) (w : World) : Prop := (∀ b ∈ B, 8 ≤ b) ∧ ∃ v m Bs M, HistAt w h rb v m Bs M ∧ ndsM M = N ∧ ∀ b ∈ partsH h v m Bs, b ∈ B
def histO (h rb : Nat) (B : List Nat) (N : List Nd) : LO := .ab B (HistQ h rb B N)
theorem histO_of {w : World} {h rb m : Nat} {v : Value} {Bs : List Nat} {M : List NdV} (H : HistAt w h rb v m Bs M) (h8 : ∀ b ∈ partsH h v m Bs, 8 ≤ b) : (histO h rb (partsH h v m Bs) (ndsM M)).holds w :=
 ⟨H.lt, fun w' ha => ⟨h8, v, m, Bs, M, H.agree ha, rfl, fun b hb => hb⟩⟩
theorem histO_at {w : World} {h rb : Nat} {B : List Nat} {N : List Nd} (H : (histO h rb B N).holds w) : HistQ h rb B N w := H.2 w fun _ _ => rfl
theorem histO_hr {w : World} {h rb : Nat} {B S : List Nat} {N : List Nd} (H : (histO h rb B N).holds w) (hN : NOk N) (hS : ∀ b ∈ S, b ∉ B) : HR S w h rb N := by
 obtain ⟨h8, v, m, Bs, M, hat, rfl, hsub⟩ := histO_at H
 refine hat.hr hN fun b hb => ⟨fun e => hS b hb (hsub b (by rw [e]; exact List.mem_cons_self ..)), fun e => hS b hb (hsub b (List.mem_cons_of_mem _ (List.mem_append.2 (.inl e)))), fun e => hS b hb (hsub b (by rw [e]; exact List.mem_cons_of_mem _ (List.mem_append.2 (.inr (List.mem_cons_self ..))))), fun e => hS b hb (hsub b (List.mem_cons_of_mem _ (List.mem_append.2 (.inr (List.mem_cons_of_mem _ (mem_nub.2 e))))))⟩
structure RgR (S : List Nat) (w : World) (rb : Nat) (R : List SK) : Prop where
 out : ∃ v m, RingAt w rb v m R ∧ rb ∉ S ∧ m ∉ S ∧ ∀ x ∈ blkOf v, x ∉ S
section
variable {S S' : List Nat} {w w' : World} {rb : Nat} {R : List SK}
theorem RgR.fr (H : RgR S w rb R) (hf : Fr S w w') : RgR S w' rb R := by
 obtain ⟨v, m, h1, h2, h3, h4⟩ := H.out
 exact ⟨v, m, h1.fr hf h2 h3 h4, h2, h3, h4⟩
theorem RgR.avoid (H : RgR S w rb R) (hs : ∀ b ∈ S', b ∈ S ∨ w.heap.size ≤ b) : RgR S' w rb R := by
 obtain ⟨v, m, h1, h2, h3, h4⟩ := H.out
 have l1 := (Array.getElem?_eq_some_iff.1 h1.box).1
 have l2 := mapAt_lt h1.map
 refine ⟨v, m, h1, fun hm => (hs _ hm).elim h2 (by omega), fun hm => (hs _ hm).elim h3 (by omega), fun x hx hm => (hs _ hm).elim (h4 x hx) (fun h => by have := LO.blk_lt h1.row x hx; omega)⟩
theorem RgR.nilS (H : RgR S w rb R) : RgR [] w rb R := H.avoid fun b hb => by cases hb
end
theorem _root_.Go.Vc.Holds.liftR {st : St} {w : World} {rb : Nat} {R : List SK} (hw : Holds st w) (H : RgR st.S st.ws rb R) : RgR st.blks w rb R := by
 have h1 := H.avoid (S' := st.S ++ st.blks) (fun b hb => (List.mem_append.1 hb).elim .inl (fun hb => hw.own b hb))
 have h2 := h1.fr (hw.fr.mono fun k hk => .inl (List.mem_append.2 (.inl hk)))
 exact h2.avoid fun b hb => .inl (List.mem_append.2 (.inr hb))
def partsR (rb : Nat) (v : Value) (m : Nat) : List Nat := rb :: (blkOf v ++ [m])
def RingQ (rb : Nat) (B : List Nat) (R : List SK) (w : World) : Prop := (∀ b ∈ B, 8 ≤ b) ∧ ∃ v m, RingAt w rb v m R ∧ ∀ b ∈ partsR rb v m, b ∈ B
def ringO (rb : Nat) (B : List Nat) (R : List SK) : LO := .ab B (RingQ rb B R)
theorem RingAt.agree {w w' : World} {b m : Nat} {v : Value} {R : List SK} (H : RingAt w b v m R) (ha : ∀ x ∈ partsR b v m, w'.heap[x]? = w.heap[x]?) : RingAt w' b v m R := by
 have a3 : w'.heap[m]? = w.heap[m]? := ha m (by simp [partsR])
 refine ⟨(ha b (by simp [partsR])).trans H.box, ?_, row_agree H.row fun x hx => ha x (by simp [partsR, hx]), H.d1, H.d2, H.d3, H.ok⟩
 obtain ⟨es, c, h1, h2⟩ := H.map
 exact ⟨es, c, a3.trans h1, h2⟩
theorem RingAt.lt {w : World} {b m : Nat} {v : Value} {R : List SK} (H : RingAt w b v m R) : ∀ x ∈ partsR b v m, x < w.heap.size := by
 intro x hx
 rcases List.mem_cons.1 hx with rfl | hx
 ·exact (Array.getElem?_eq_some_iff.1 H.box).1
 ·rcases List.mem_append.1 hx with hx | hx
  ·exact LO.blk_lt H.row x hx
  ·rw [List.mem_singleton.1 hx]; exact mapAt_lt H.map
theorem ringO_of {w : World} {b m : Nat} {v : Value} {R : List SK} (H : RingAt w b v m R) (h8 : ∀ x ∈ partsR b v m, 8 ≤ x) : (ringO b (partsR b v m) R).holds w :=
 ⟨H.lt, fun w' ha => ⟨h8, v, m, H.agree ha, fun x hx => hx⟩⟩
theorem ringO_at {w : World} {rb : Nat} {B : List Nat} {R : List SK} (H : (ringO rb B R).holds w) : RingQ rb B R w := H.2 w fun _ _ => rfl
theorem ringO_rr {w : World} {rb : Nat} {B S : List Nat} {R : List SK} (H : (ringO rb B R).holds w) (hS : ∀ b ∈ S, b ∉ B) : RgR S w rb R := by
 obtain ⟨h8, v, m, hat, hsub⟩ := ringO_at H
 exact ⟨v, m, hat, fun hm => hS _ hm (hsub _ (by simp [partsR])), fun hm => hS _ hm (hsub _ (by simp [partsR])), fun x hx hm => hS _ hm (hsub _ (by simp [partsR, hx]))⟩
theorem nok_add {R : List SK} {N : List Nd} {k mk : Int} {t : List UInt8} (hN : NOk N) (hk : okSK (k, t)) (ht : t.length ≤ 900000) (hmk : iR mk) : NOk (addB R N k t mk).1 := by
 unfold addB
 split
 ·exact hN
 split
 ·exact hN
 split
 ·exact hN
 split
 ·exact hN
 split
 ·exact hN
 split
 ·exact hN
 rename_i hd _ hl
 have hall : (downB N (readE t).1.knows [] true).2 = true := by simpa using hd
 have hknown := (down_all (readE t).1.knows [] true hall).2
 obtain ⟨hl0, hl1⟩ := levelB_bd hN (readE t).1.knows 0 hknown (Int.le_refl _) (by omega)
 obtain ⟨q1, q2⟩ := down_ok hN (readE t).1.knows [] true (fun x hx => by cases hx) (by simp)
 refine ⟨by simp; omega, fun i n hn => ?_⟩
 rw [List.getElem?_append] at hn
 split at hn
 ·exact hN.nd i n hn
 ·rename_i hi
  have hi0 : i = N.length := by
   have := (List.getElem?_eq_some_iff.1 hn).1
   simp at this; omega
  subst hi0
  simp only [Nat.sub_self, List.getElem?_cons_zero, Option.some.injEq] at hn
  subst hn
  have hE := readE_R t ht
  generalize downB N (readE t).1.knows [] true = dn at q1 q2 ⊢
  generalize readE t = re at hl0 hl1 hE ⊢
  refine ⟨q1, q2, ?_, ?_, hE, hk, ht, hmk⟩
  ·exact hl0
  ·exact hl1
theorem nok_nil : NOk [] := ⟨by simp, fun i n hn => by simp at hn⟩
theorem add_call {st : St} {d : Option Nat} {K : St → Prop} {id h rb : Nat} {B : List Nat} {N : List Nd} {R : List SK} {k mk : Int} {t : List UInt8} (hl : Vc.look st.hp id = some (histO h rb B N)) (hN : NOk N) (hk : okSK (k, t)) (ht : t.length ≤ 900000)
  (hG : ∀ w, Holds st w → Gl w) (hR : ∀ w, Holds st w → RgR B w rb R)
  (hK : ∀ B', hpSetK st.hp id (histO h rb B' (addB R N k t mk).1) (fun hp => st.withHp hp (fun st' => goPut st' d (.i (addB R N k t mk).2) K))) : UCall Tryz.prog st 26 [ptr h, vSg k t mk] d K :=
 obj_call (id := id) (o := histO h rb B N) b26 hl (fun r o' => r = .i (addB R N k t mk).2 ∧ ∃ B', o' = histO h rb B' (addB R N k t mk).1)
  (fun w hw => by
   have hGw := hG w hw
   obtain ⟨vr, mr, hring, r1, r2, r3⟩ := (hR w hw).out
   obtain ⟨h8, v, m, Bs, M, hat, rfl, hsub⟩ := histO_at (hw.objs _ (look_mem hl))
   refine (add_c h rb v m Bs M hN vr mr R k mk t hk ht w hGw hat hring (fun b hb => h8 b (hsub b hb)) (fun hm => r1 (hsub _ hm)) (fun hm => r2 (hsub _ hm)) (fun x hx hm => r3 x hx (hsub _ hm))).mono ?_
   rintro e w' ⟨v', Bs', M', he, hM, hadd⟩
   have hnew : ∀ b ∈ partsH h v' m Bs', b ∈ B ∨ w.heap.size ≤ b := by
    intro b hb
    rcases List.mem_cons.1 hb with rfl | hb
    ·exact .inl (hsub _ (List.mem_cons_self ..))
    ·have key : b ∈ blkOf v' ∨ b ∈ Bs' → b ∈ B ∨ w.heap.size ≤ b := fun hb => (hadd.new b hb).elim (fun hb => .inl (hsub b (List.mem_cons_of_mem _ (hb.elim (fun hb => List.mem_append.2 (.inl hb)) (fun hb => List.mem_append.2 (.inr (List.mem_cons_of_mem _ (mem_nub.2 hb)))))))) .inr
     rcases List.mem_append.1 hb with hb | hb
     ·exact key (.inl hb)
     ·rcases List.mem_cons.1 hb with rfl | hb
      ·exact .inl (hsub _ (List.mem_cons_of_mem _ (List.mem_append.2 (.inr (List.mem_cons_self ..)))))
      ·exact key (.inr (mem_nub.1 hb))
   refine ⟨.i (addB R (ndsM M) k t mk).2, histO h rb (partsH h v' m Bs') (addB R (ndsM M) k t mk).1, he, ⟨rfl, _, rfl⟩, ?_, hadd.fr.mono fun b hb => .inl (mem_nub.2 (hsub b hb)), fun b hb => (hnew b (mem_nub.1 hb)).imp mem_nub.2 _root_.id⟩
   rw [← hM]
   exact histO_of hadd.at' fun b hb => (hnew b hb).elim (h8 b) (fun h => Nat.le_trans hGw.size h))
  (fun r o' ⟨hr, B', ho⟩ => by
   subst hr; subst ho
   exact ⟨⟨fun b T cells e => (by unfold histO at e; cases e), trivial, trivial⟩, hK B'⟩)
theorem newAb_call {P : Program} {f : FuncId} {args : List Value} {st : St} {d : Option Nat} {K : St → Prop} {ι : Type} (F : ι → RV) (BF : ι → List Nat) (QF : ι → World → Prop) (hb : Body P f) (hn : ∀ i, noPr (F i) = true)
  (h : ∀ w, Holds st w → Calls P f args.toArray w (fun e w' => ∃ i, e = .returned (F i).den ∧ (LO.ab (BF i) (QF i)).holds w' ∧ (∀ b ∈ BF i, w.heap.size ≤ b) ∧ Ext w w'))
  (hk : ∀ i, st.pushK (.ab (BF i) (QF i)) (fun n st' => goPut st' d (F i) K)) : UCall P st f args d K :=
 .inl ⟨hb, fun hwf w hw => (h w hw).mono fun e w' ⟨i, he, ho, hf, hx⟩ => by
  have hk' := hk i
  rw [pushK_eq] at hk'
  exact ⟨F i, st.push (.ab (BF i) (QF i)), he, ⟨rfl, rfl, rfl, rfl⟩, hwf.push trivial, noPr_ok (hn i), hw.pushG hx ho fun b hb => hf b (mem_nub.1 hb), hk'⟩⟩
end Go.Proofs.YtdigebokbhmfaaaGreatDoor
namespace Go.Proofs.YtdigebokbhmfaaaGreatDoor
open Go.Vc Rt Go.Bs
set_option maxHeartbeats 1000000
def restrictL (R : List SK) (N : List Nd) (bits : List Nat) : Nat → List Nd
 | 0 => []
 | k + 1 => if testB bits k then (addB R (restrictL R N bits k) (nodeAt N k).key (nodeAt N k).text (nodeAt N k).mark).1 else restrictL R N bits k
def restrictB (R : List SK) (N : List Nd) (marks : List Int) : List Nd := restrictL R N (downB N marks [] true).1 N.length
theorem nodeAt_get {N : List Nd} {k : Nat} {x : Nd} (hx : N[k]? = some x) : nodeAt N k = x := by
 unfold nodeAt; rw [Int.toNat_natCast, List.getD_eq_getElem?_getD, hx]; rfl
theorem nok_restrictL {R : List SK} {N : List Nd} {bits : List Nat} (hN : NOk N) : ∀ k, k ≤ N.length → NOk (restrictL R N bits k)
 | 0, _ => nok_nil
 | k + 1, hk => by
  unfold restrictL
  split
  ·obtain ⟨x, hx⟩ : ∃ x, N[k]? = some x := ⟨_, List.getElem?_eq_getElem (by omega)⟩
   obtain ⟨_, _, _, _, _, h1, h2, h3⟩ := hN.nd k x hx
   rw [nodeAt_get hx]
   exact nok_add (nok_restrictL hN k (by omega)) h1 h2 h3
  ·exact nok_restrictL hN k (by omega)
theorem hnew8 (rb : Nat) (w : World) (hG : Gl w) : Calls Tryz.prog 19 #[ptr rb] w (fun e w' => ∃ i : Nat × List Nat, e = .returned (ptr i.1) ∧ (histO i.1 rb i.2 []).holds w' ∧ (∀ b ∈ i.2, w.heap.size ≤ b) ∧ Ext w w') :=
 (histNew_c rb w).mono fun e w' ⟨h, m, he, hat, h1, h2, hx⟩ => by
  have hb : ∀ b ∈ partsH h (.slice none 0 0) m [], w.heap.size ≤ b := by
   intro b hb
   simp [partsH, blkOf, nub] at hb
   rcases hb with rfl | rfl
   ·exact h1
   ·exact h2
  exact ⟨(h, partsH h (.slice none 0 0) m []), he, histO_of hat fun b hb' => Nat.le_trans hG.size (hb b hb'), hb, hx⟩
theorem restrict_r (h rb : Nat) (N : List Nd) (hN : NOk N) (R : List SK) (marks : List Int) (mv : Value) (w : World) (hG : Gl w) (H : HR [] w h rb N) (hR : RgR [] w rb R) (hm : SlOf intT [] w mv marks) (hml : marks.length ≤ 1000000) :
  Calls Tryz.prog 8 #[ptr h, mv] w (fun e w' => ∃ i : Nat × List Nat, e = .returned (ptr i.1) ∧ (histO i.1 rb i.2 (restrictB R N marks)).holds w' ∧ (∀ b ∈ i.2, w.heap.size ≤ b) ∧ Ext w w') := by
 obtain ⟨v, m, hb, hv, hmp, _⟩ := H.out
 have hvl := hv.len
 have hNl := hN.len
 refine calls_e [.s (.c (.e (hs h) 3 0 0)), .x mv] Tryz.func8 rfl rfl (Nat.le_of_ble_eq_true rfl) ⟨⟨_, _, _, rfl⟩, trivial⟩ fun B hB => ?_
 repeat refine zq ?_
 refine zr ?_; conv => whnf
 repeat refine zq ?_
 refine zr ?_; conv => whnf
 refine ⟨[.x (ptr rb)], fun w' hw => hb.load (n := 1) (i := 0) (off := 0) hw.fr rfl rfl, ?_⟩; conv => whnf
 refine newAb_call (fun i : Nat × List Nat => .x (ptr i.1)) (fun i => i.2) (fun i => HistQ i.1 rb i.2 []) b19 (fun _ => rfl) (fun w' hw => hnew8 rb w' (hG.ext hw.fr)) ?_
 rintro ⟨h2, B2⟩
 conv => whnf
 repeat refine zq ?_
 refine zr ?_; conv => whnf
 refine ansR_call b35 (rd1p (nopW _) rfl) (fun w' hw => down_r h rb N hN marks mv w' (H.ext hw.fr) (hm.ext hw.fr) hml) ?_
 intro vb; conv => whnf
 obtain ⟨hpo, hpl⟩ := down_ok hN marks [] true (fun x hx => by cases hx) (by simp)
 generalize hbits : (downB N marks [] true).1 = bits at hpo hpl ⊢
 generalize (downB N marks [] true).2 = all
 repeat refine zq ?_
 refine zr ?_; conv => whnf
 refine ⟨[.x v], fun w' hw => hb.load (n := 1) (i := 0) (off := 1) hw.fr rfl rfl, ?_⟩; conv => whnf
 refine ⟨hv.sl, ?_⟩; conv => whnf
 repeat refine zq ?_
 refine At.block ?_
 refine At.loopH (fun p' : Nat × List Nat => { N := Tryz.f8.ntmps, sl := [(5, some (.x ((ptr h2)))), (6, some (.s (.c (.o 1 vb)))), (24, some (.x v)), (25, some (.i N.length)), (26, some (.i p'.1))], gl := [], hp := [(1, .row vb 136 1 (bits.map encW)), (0, histO h2 rb p'.2 (restrictL R N bits p'.1))], S := [], ws := w }) (fun p' : Nat × List Nat => p'.1 ≤ N.length) (fun p' : Nat × List Nat => N.length - p'.1)
  (fun w' hw => ⟨(0, B2), Nat.zero_le _, Le.of rfl rfl ⟨rfl, rfl, rfl, congrArg (Value.int .i64) hvl, rfl, trivial⟩, hw.keep [1, 0] rfl rfl rfl, ⟨⟨_, _, _, rfl⟩, trivial⟩, ⟨(nopW _).okH, trivial⟩⟩) ?_
 rintro ⟨k, BB⟩ hk
 simp only at hk ⊢
 repeat refine zq ?_
 refine zr ?_; conv => whnf
 repeat refine zq ?_
 refine At.cond rfl (fun hc => At.skip ?_) (fun hc => At.exit ?_)
 ·have hlt : k < N.length := by have := of_decide_eq_true hc; omega
  obtain ⟨x, hx⟩ : ∃ x, N[k]? = some x := ⟨_, List.getElem?_eq_getElem hlt⟩
  have hlt : k < N.length := by have := of_decide_eq_true hc; omega
  obtain ⟨_, ⟨k1, y1, s1, p, rfl, hin, hp⟩, hc2⟩ := hv.at hx
  obtain ⟨_, _, _, _, _, hsk, htl, _⟩ := hN.nd k x hx
  have hnk := nok_restrictL (R := R) (bits := bits) hN k hk
  have hst : restrictL R N bits (k + 1) = if testB bits k then (addB R (restrictL R N bits k) x.key x.text x.mark).1 else restrictL R N bits k := by
   show (if testB bits k then (addB R (restrictL R N bits k) (nodeAt N k).key (nodeAt N k).text (nodeAt N k).mark).1 else restrictL R N bits k) = _
   rw [nodeAt_get hx]
  repeat refine zq ?_
  refine At.block ?_
  repeat refine zq ?_
  refine zr ?_; conv => whnf
  refine ⟨by omega, ?_⟩; conv => whnf
  refine ⟨by omega, ?_⟩; conv => whnf
  refine ⟨encN x k1 y1 s1 p, fun w' hw => (hc2 w' hw.fr).part (n := 18) rfl, ?_⟩; conv => whnf
  intro b9; conv => whnf
  refine ⟨hin.k.one, ?_⟩; conv => whnf
  refine ⟨hin.y.one, ?_⟩; conv => whnf
  refine ⟨hin.s.one, ?_⟩; conv => whnf
  refine ⟨hp.one, ?_⟩; conv => whnf
  repeat refine zq ?_
  refine zr ?_; conv => whnf
  refine ans_call b36 rfl (fun w' hw => test_c bits hpo k [] vb w' (SlOf.of_row (enc := encW) (hw.row (id := 1) rfl) (fun _ _ => nilS) (by omega)) (by omega)) ?_; conv => whnf
  repeat refine zq ?_
  cases htb : testB bits k with
  | false =>
   rw [htb, if_neg (by decide)] at hst
   refine At.cond (t := false) rfl (fun hq => by cases hq) (fun _ => At.skip ?_)
   repeat refine zq ?_
   refine zr ?_; conv => whnf
   refine ⟨⟨by omega, by omega⟩, ?_⟩; conv => whnf
   refine At.nextH fun w' hw => ⟨(k + 1, BB), by simp only; omega, by simp only; omega, Le.of rfl rfl ⟨rfl, rfl, rfl, rfl, rfl, trivial⟩, hw.keep [1, 0] (by simp only [hst]; rfl) rfl rfl, ⟨⟨_, _, _, rfl⟩, trivial⟩, ⟨(nopW _).okH, trivial⟩⟩
  | true =>
   rw [htb, if_pos rfl] at hst
   refine At.cond (t := true) rfl (fun _ => ?_) (fun hq => by cases hq)
   repeat refine zq ?_
   refine zr ?_; conv => whnf
   refine add_call (id := 0) (h := h2) (rb := rb) (B := BB) (N := restrictL R N bits k) (R := R) (k := x.key) (mk := x.mark) (t := x.text) rfl hnk hsk htl (fun w' hw => hG.ext hw.fr) (fun w' hw => (hw.liftR hR).avoid fun b hb => .inl (List.mem_flatMap.2 ⟨_, look_mem (s := 0) rfl, mem_nub.2 hb⟩)) ?_
   intro B3; conv => whnf
   repeat refine zq ?_
   refine zr ?_; conv => whnf
   refine ⟨⟨by omega, by omega⟩, ?_⟩; conv => whnf
   refine At.nextH fun w' hw => ⟨(k + 1, B3), by simp only; omega, by simp only; omega, Le.of rfl rfl ⟨rfl, rfl, rfl, rfl, rfl, trivial⟩, hw.keep [1, 0] (by simp only [hst]; rfl) rfl rfl, ⟨⟨_, _, _, rfl⟩, trivial⟩, ⟨(nopW _).okH, trivial⟩⟩
 ·have hge : k = N.length := by have := of_decide_eq_false hc; omega
  subst hge
  repeat refine zq ?_
  refine zr ?_; conv => whnf
  repeat refine zq ?_
  refine At.ret (At.doneB tab_ok hB _ rfl fun w' hw => ?_)
  refine ⟨(h2, BB), rfl, ?_, fun b hb => ?_, hw.fr⟩
  ·unfold restrictB
   rw [hbits]
   exact hw.objs _ (look_mem (s := 0) rfl)
  ·exact (hw.fresh (id := 0) rfl b (mem_nub.2 hb)).elim (fun h => by cases h) _root_.id
theorem copy_r (h rb : Nat) (N : List Nd) (hN : NOk N) (R : List SK) (w : World) (hG : Gl w) (H : HR [] w h rb N) (hR : RgR [] w rb R) :
  Calls Tryz.prog 40 #[ptr h] w (fun e w' => ∃ i : Nat × List Nat, e = .returned (ptr i.1) ∧ (histO i.1 rb i.2 (restrictB R N (marksB N))).holds w' ∧ (∀ b ∈ i.2, w.heap.size ≤ b) ∧ Ext w w') := by
 have hNl := hN.len
 have hml := marksB_len N
 refine calls_e [.s (.c (.e (hs h) 3 0 0))] Tryz.func40 rfl rfl (Nat.le_of_ble_eq_true rfl) ⟨⟨_, _, _, rfl⟩, trivial⟩ fun B hB => ?_
 repeat refine zq ?_
 refine zr ?_; conv => whnf
 repeat refine zq ?_
 refine zr ?_; conv => whnf
 refine ansR_call b12 (rd1 (nopI _)) (fun w' hw => marks_r h rb N hN w' (H.ext hw.fr)) ?_
 intro mv; conv => whnf
 refine newAb_call (fun i : Nat × List Nat => .x (ptr i.1)) (fun i => i.2) (fun i => HistQ i.1 rb i.2 (restrictB R N (marksB N))) b8 (fun _ => rfl) (fun w' hw => restrict_r h rb N hN R (marksB N) mv w' (hG.ext hw.fr) (H.ext hw.fr) (hR.fr hw.fr) (slI _ (hw.row (id := 0) rfl) (by omega)) (by omega)) ?_
 rintro ⟨h2, B2⟩
 conv => whnf
 repeat refine zq ?_
 refine At.ret (At.doneB tab_ok hB _ rfl fun w' hw => ⟨(h2, B2), rfl, hw.objs _ (look_mem (s := 1) rfl), fun b hb => (hw.fresh (id := 1) rfl b (mem_nub.2 hb)).elim (fun h => by cases h) _root_.id, hw.fr⟩)
end Go.Proofs.YtdigebokbhmfaaaGreatDoor
namespace Go.Proofs.YtdigebokbhmfaaaGreatDoor
open Go.Vc Rt Go.Bs
def oneNV (p : NdV) : Prop := p.2.1.oneCell' = true ∧ p.2.2.1.oneCell' = true ∧ p.2.2.2.1.oneCell' = true ∧ p.2.2.2.2.oneCell' = true
abbrev NV1 := { p : NdV // oneNV p }
instance : Inhabited NV1 := ⟨⟨(default, .slice none 0 0, .slice none 0 0, .slice none 0 0, .slice none 0 0), rfl, rfl, rfl, rfl⟩⟩
def encV1 (p : NV1) : List CV := encM p.1
def encVN (p : NV1) : List Value := dens (encV1 p)
def cmpNd (a b : Nd) : Int := Dr.cmpN a.level a.e.author a.e.seq a.mark b.level b.e.author b.e.seq b.mark
def cmpV1 (a b : NV1) : Int := cmpNd a.1.1 b.1.1
def ltN (a b : Nd) : Prop := a.level < b.level ∨ (a.level = b.level ∧ (a.e.author < b.e.author ∨ (a.e.author = b.e.author ∧ (a.e.seq < b.e.seq ∨ (a.e.seq = b.e.seq ∧ a.mark < b.mark)))))
theorem orI4 (a b c d : Int) : orI [a, b, c, d] = if a = 0 then (if b = 0 then (if c = 0 then d else c) else b) else a := by
 unfold orI
 by_cases h1 : a = 0
 ·by_cases h2 : b = 0
  ·by_cases h3 : c = 0
   ·by_cases h4 : d = 0 <;> simp [h1, h2, h3, h4]
   ·simp [h1, h2, h3]
  ·simp [h1, h2]
 ·simp [h1]
theorem cmpNd_neg (a b : Nd) : cmpNd a b < 0 ↔ ltN a b := by
 unfold cmpNd Dr.cmpN ltN
 rw [orI4]
 simp only [cmpI_zero]
 by_cases e1 : a.level = b.level
 ·rw [if_pos e1]
  by_cases e2 : a.e.author = b.e.author
  ·rw [if_pos e2]
   by_cases e3 : a.e.seq = b.e.seq
   ·rw [if_pos e3, cmpI_neg]; omega
   ·rw [if_neg e3, cmpI_neg]; omega
  ·rw [if_neg e2, cmpI_neg]; omega
 ·rw [if_neg e1, cmpI_neg]; omega
theorem ltOf_cmpV1 (a b : NV1) : ltOf cmpV1 a b = true ↔ ltN a.1.1 b.1.1 := by
 unfold ltOf cmpV1
 rw [decide_eq_true_iff]
 exact cmpNd_neg _ _
theorem swoN : Sort.SWO (ltOf cmpV1) where
 irrefl x := by rw [← Bool.not_eq_true, ltOf_cmpV1]; unfold ltN; omega
 trans x y z h1 h2 := by rw [ltOf_cmpV1] at *; unfold ltN at *; omega
 ntrans x y z h1 h2 := by rw [← Bool.not_eq_true, ltOf_cmpV1] at *; unfold ltN at *; omega
theorem cmpN_lays (blk off size : Nat) (w : World) : CmpLays Tryz.prog 43 #[] encVN 18 cmpV1 blk off size w := by
 intro m os dk hs x y
 obtain ⟨⟨⟨k1, t1, m1, e1, l1, p1⟩, kk1, y1, s1, q1⟩, h1⟩ := x
 obtain ⟨⟨⟨k2, t2, m2, e2, l2, p2⟩, kk2, y2, s2, q2⟩, h2⟩ := y
 exact Dr.compareN_c k1 k2 t1 t2 m1 m2 e1 e2 l1 l2 kk1 y1 s1 q1 kk2 y2 s2 q2 _
theorem encVN_len (p : NV1) : (encVN p).length = 18 := rfl
theorem flatV_get (d : Array NV1) {j : Nat} (hj : j < d.size * 18) : (dens (d.toList.map encV1).flatten)[j]? = some (Sort.flatK encVN 18 d)[j]! := by
 have hlr : ∀ l ∈ d.toList.map encV1, l.length = 18 := fun l hl => by obtain ⟨x, _, rfl⟩ := List.mem_map.1 hl; rfl
 have hq : j / 18 < d.size := by omega
 have e := flatten_get hlr (k := j / 18) (row := encV1 d[j / 18]) (by simp [hq]) (j % 18) (by omega)
 rw [show j / 18 * 18 + j % 18 = j by omega] at e
 rw [Sort.get_flatK _ _ _ _ hj, getElem!_pos d (j / 18) hq]
 have hl : j % 18 < (encVN d[j / 18]).length := by rw [encVN_len]; omega
 rw [getElem!_pos (encVN d[j / 18]) (j % 18) hl]
 simp only [dens, List.getElem?_map, e]
 rw [← List.getElem?_map, ← List.getElem?_eq_getElem hl]
 rfl
theorem sortN_c' (xs : List NV1) (v : Value) (w : World) (h : (LO.row v 86 18 (xs.map encV1)).holds w) (hN : xs.length ≤ 1000000) (hnil : Calls Tryz.prog 42 #[.slice none 0 0, .func (.func 43) #[] #[]] w fun e w' => e = .returned (.tuple #[]) ∧ w' = w) :
  Calls Tryz.prog 42 #[v, .func (.func 43) #[] #[]] w (fun e w' => ∃ ys : List NV1, e = .returned (.tuple #[]) ∧ ys.Perm xs ∧ ys.Pairwise (fun a b => ¬ ltN b.1.1 a.1.1) ∧ (LO.row v 86 18 (ys.map encV1)).holds w' ∧ Fr (blkOf v) w w') := by
 have h' := h
 obtain ⟨⟨hlen, hv⟩, hL⟩ := h
 rcases hv with ⟨rfl, h0⟩ | ⟨g, o, cap, cur, rfl, hg, hnc, hcm, hcs, htake⟩
 ·have hx : xs = [] := List.eq_nil_of_length_eq_zero (by simpa using h0)
  subst hx
  exact hnil.mono fun e w' ⟨he, hw⟩ => ⟨[], he, .nil, .nil, by rw [hw]; exact h', by rw [hw]; exact Fr.refl _ _⟩
 ·simp only [List.length_map] at hnc hcs htake hlen ⊢
  have hgs : g < w.heap.size := (Array.getElem?_eq_some_iff.1 hg).1
  have hcell : ∀ j u, (dens (xs.map encV1).flatten)[j]? = some u → w.cell? ⟨g, o + j, none⟩ = some u := by
   intro j u hu
   have hj : j < xs.length * 18 := by
    rcases Nat.lt_or_ge j (xs.length * 18) with h1 | h1
    ·exact h1
    ·rw [List.getElem?_eq_none (by omega)] at hu; cases hu
   rw [cell_of_row w g _ _ _ _ hg]
   rw [← htake, List.getElem?_take_of_lt hj, List.getElem?_drop] at hu
   simpa using hu
  have hH : Sort.HoldsK encVN 18 w g o xs.toArray := by
   intro j hj
   simp only [Sort.size_flatK, List.size_toArray] at hj
   refine ⟨hcell j _ (flatV_get xs.toArray (by simpa using hj)), ?_⟩
   simp [World.frozen?, hg]
  have eg : ∀ args w, (callFunc 43 args).run Tryz.prog w = .ok (.enter 43 args) w := enters_of Tryz.func43 (by kernel_rfl) rfl
  have hcon := AnyQ.slices_SortFunc Tryz.sortNd 18 (fun w => ok_isAgg (P := Tryz.prog) (t := 86) (d := .struct (Tryz.prog.fieldsOf 86)) (by kernel_rfl) w) (fun w => by
   obtain ⟨i, hi, hs⟩ : ∃ i, Tryz.prog.info? 86 = some i ∧ i.size = 18 := by
    obtain ⟨i, d, hi, _, hs, _⟩ := chk_info (tab_ok 86 _ rfl)
    exact ⟨i, hi, hs⟩
   have := ok_sizeOf (P := Tryz.prog) hi w
   rw [hs] at this
   exact this) encVN (fun _ => rfl) (fun x v hv => by
    obtain ⟨⟨nd, k, y, s, p⟩, h1, h2, h3, h4⟩ := x
    simp only [encVN, encV1, encM, encN, encE, dens, List.map_append, List.map_cons, List.map_nil, List.cons_append, List.nil_append, List.mem_cons, List.not_mem_nil, or_false, CV.den] at hv
    rcases hv with rfl | rfl | rfl | rfl | rfl | rfl | rfl | rfl | rfl | rfl | rfl | rfl | rfl | rfl | rfl | rfl | rfl | rfl <;> first | rfl | assumption) cmpV1 swoN 43 #[] g o cap xs.toArray w eg (cmpN_lays g o _ w) hH hgs (by simp; omega)
  change Calls Tryz.prog 42 _ _ _ at hcon
  refine hcon.mono fun e w' ⟨he, d', n', os, hp, hs, hw⟩ => ⟨d'.toList, he, ?_, ?_, ?_, ?_⟩
  ·have hp3 := hp.2.2
   have e1 : d'.extract 0 xs.toArray.size = d' := by rw [← hp.1]; simp
   have e2 : xs.toArray.extract 0 xs.toArray.size = xs.toArray := by simp
   rw [e1, e2] at hp3
   simpa using hp3
  ·rw [List.pairwise_iff_getElem]
   intro i j hi hj hij hlt
   have := hs i j (Nat.zero_le _) hij (by rw [← hp.1]; simpa using hj)
   rw [getElem!_pos d' j (by simpa using hj), getElem!_pos d' i (by simpa using hi), ← Bool.not_eq_true, ltOf_cmpV1] at this
   exact this (by simpa using hlt)
  all_goals
   have hd : d'.size = xs.length := by rw [hp.1]; simp
   have hheap : w'.heap[g]? = some (.cells (Sort.putCells id o (Sort.flatK encVN 18 d') cur) 86 (0, 0)) := by
    rw [hw]
    simp only [sortWorldK, Sort.grow, Sort.putRowK, Sort.putRow, Sort.mapBlock, Sort.ahead]
    rw [Array.getElem?_append_left (by simpa using hgs), Array.getElem?_modify, if_pos rfl, hg]
    rfl
  ·have hrl : ∀ l ∈ d'.toList.map encV1, l.length = 18 := fun l hl => by obtain ⟨x, _, rfl⟩ := List.mem_map.1 hl; rfl
   have hdl : (dens (d'.toList.map encV1).flatten).length = xs.length * 18 := by simp only [dens, List.length_map]; rw [flatten_len hrl]; simp [hd]
   refine ⟨⟨by rw [hdl]; simp [hd], .inr ⟨g, o, cap, _, by simp [hd], hheap, by simp [hd]; omega, hcm, by simp [Sort.putCells]; exact hcs, ?_⟩⟩, hrl⟩
   apply List.ext_getElem?
   intro j
   by_cases hj : j < xs.length * 18
   ·have e := flatV_get d' (j := j) (by omega)
    rw [List.getElem?_take_of_lt (by simp [hd]; omega), List.getElem?_drop, e]
    have hlt : o + j < cur.size := by
     have : xs.length * 18 ≤ cap * 18 := Nat.mul_le_mul_right _ hnc
     omega
    simp [Sort.putCells, hlt, hd, hj]
   ·rw [List.getElem?_eq_none (by simp [hd]; omega), List.getElem?_eq_none (by omega)]
  ·rw [hw]
   refine ⟨rfl, rfl, rfl, by simp [sortWorldK, Sort.grow, Sort.putRowK], fun k hk hn => ?_⟩
   have hne : g ≠ k := fun e => hn (by simp [blkOf, e])
   simp only [sortWorldK, Sort.grow, Sort.putRowK, Sort.putRow, Sort.mapBlock, Sort.ahead]
   rw [Array.getElem?_append_left (by simpa using hk), Array.getElem?_modify, if_neg hne]
theorem sortN_c (xs : List NV1) (v : Value) (w : World) (h : (LO.row v 86 18 (xs.map encV1)).holds w) (hN : xs.length ≤ 1000000) :
  Calls Tryz.prog 42 #[v, .func (.func 43) #[] #[]] w (fun e w' => ∃ ys : List NV1, e = .returned (.tuple #[]) ∧ ys.Perm xs ∧ ys.Pairwise (fun a b => ¬ ltN b.1.1 a.1.1) ∧ (LO.row v 86 18 (ys.map encV1)).holds w' ∧ Fr (blkOf v) w w') := by
 have hcon := AnyF.slices_SortFunc_none Tryz.sortNd none 0 (.func (.func 43) #[] #[]) w
 change Calls Tryz.prog 42 _ _ _ at hcon
 exact sortN_c' xs v w h hN hcon
end Go.Proofs.YtdigebokbhmfaaaGreatDoor
namespace Go.Proofs.YtdigebokbhmfaaaGreatDoor
open Go.Vc Rt Go.Bs
set_option maxHeartbeats 1000000
def nvT : Ty NdV := flat 18 encM (fun _ => rfl)
theorem list_choice {α β : Type} : ∀ (xs : List α) (P : Nat → α → β → Prop), (∀ i x, xs[i]? = some x → ∃ y, P i x y) → ∃ ys : List β, ys.length = xs.length ∧ ∀ i x y, xs[i]? = some x → ys[i]? = some y → P i x y
 | [], P, _ => ⟨[], rfl, fun i x y hx => by simp at hx⟩
 | a :: xs, P, h => by
  obtain ⟨b, hb⟩ := h 0 a rfl
  obtain ⟨ys, hl, hy⟩ := list_choice xs (fun i => P (i + 1)) fun i x hx => h (i + 1) x (by simpa using hx)
  refine ⟨b :: ys, by simp [hl], fun i x y hx hy' => ?_⟩
  cases i with
  | zero => simp at hx hy'; subst hx; subst hy'; exact hb
  | succ i => exact hy i x y (by simpa using hx) (by simpa using hy')
theorem nv_of {S : List Nat} {w : World} {v : Value} {N : List Nd} (h : SlOf ndT S w v N) : ∃ VM : List NV1, ndsM (VM.map (·.1)) = N ∧ SlOf nvT S w v (VM.map (·.1)) := by
 obtain ⟨ys, hl, hy⟩ := list_choice (β := NV1) N (fun i x p => p.1.1 = x ∧ ECells w v 18 i 0 (encM p.1)) (fun i x hx => by
  obtain ⟨l, ⟨k, y, s, p, rfl, hin, hp⟩, hc⟩ := h.elem i x hx
  exact ⟨⟨(x, k, y, s, p), hin.k.one, hin.y.one, hin.s.one, hp.one⟩, rfl, hc⟩)
 refine ⟨ys, ?_, ⟨h.sl, ?_, ?_, ?_, ?_⟩⟩
 ·unfold ndsM
  rw [List.map_map]
  apply List.ext_getElem?
  intro i
  rw [List.getElem?_map]
  cases hx : N[i]? with
  | none => rw [List.getElem?_eq_none (by rw [hl]; exact List.getElem?_eq_none_iff.1 hx)]; rfl
  | some x =>
   have hi := (List.getElem?_eq_some_iff.1 hx).1
   rw [List.getElem?_eq_getElem (by omega)]
   simp only [Option.map_some, Function.comp_apply]
   rw [(hy i x _ hx (List.getElem?_eq_getElem (by omega))).1]
 ·rw [h.len, List.length_map, hl]
 ·rw [List.length_map, hl]; exact h.small
 ·intro a n c e hp
  exact h.av a n c e (by rw [List.length_map, hl] at hp; exact hp)
 ·intro i p hp
  rw [List.getElem?_map] at hp
  cases hq : ys[i]? with
  | none => rw [hq] at hp; cases hp
  | some q =>
   rw [hq] at hp
   simp only [Option.map_some, Option.some.injEq] at hp
   subst hp
   have hi := (List.getElem?_eq_some_iff.1 hq).1
   exact ⟨encM q.1, rfl, (hy i _ q (List.getElem?_eq_getElem (by omega)) hq).2⟩
theorem _root_.Go.Vc.SlOf.srcO {α : Type} {S : List Nat} {w : World} {v : Value} {xs : List α} {size : Nat} {enc : α → List CV} {hl : ∀ x, (enc x).length = size} (h : SlOf (flat size enc hl) S w v xs) (ho : ∀ x ∈ xs, ∀ c ∈ enc x, c.den.oneCell' = true) : SrcOk w v size (xs.map enc) := by
 refine ⟨fun l hl' => ?_, fun l hl' c hc => ?_, ?_⟩
 ·obtain ⟨x, _, rfl⟩ := List.mem_map.1 hl'; exact hl x
 ·obtain ⟨x, hx, rfl⟩ := List.mem_map.1 hl'; exact ho x hx c hc
 ·obtain ⟨a, n, c, rfl, hnil, hc⟩ := h.sl
  cases a with
  | none =>
   obtain ⟨rfl, rfl⟩ := hnil rfl
   have hl0 := h.len
   simp only [slen] at hl0
   have : xs = [] := List.eq_nil_of_length_eq_zero (by omega)
   subst this
   exact .inr ⟨rfl, rfl⟩
  | some a =>
   have hn : n = xs.length := by have := h.len; simp only [slen] at this; omega
   subst hn
   refine .inl ⟨a, c, by simp, fun j x hx => ?_⟩
   have hlr : ∀ l ∈ xs.map enc, l.length = size := fun l hl' => by obtain ⟨x, _, rfl⟩ := List.mem_map.1 hl'; exact hl x
   have hjl : j < xs.length * size := by
    rcases Nat.lt_or_ge j (xs.length * size) with h' | h'
    ·exact h'
    ·rw [List.getElem?_eq_none (by simp only [dens, List.length_map]; rw [flatten_len hlr, List.length_map]; exact h')] at hx; cases hx
   have hpos : 0 < size := Nat.pos_of_ne_zero fun h0 => by subst h0; simp at hjl
   have hq : j / size < xs.length := Nat.div_lt_of_lt_mul (by rw [Nat.mul_comm]; exact hjl)
   have hr := Nat.mod_lt j hpos
   have hj : j / size * size + j % size = j := by rw [Nat.mul_comm]; exact Nat.div_add_mod j size
   obtain ⟨l, h1, h2⟩ := h.elem (j / size) _ (List.getElem?_eq_getElem hq)
   cases h1
   have e := flatten_get hlr (k := j / size) (row := enc xs[j / size]) (by simp [hq]) (j % size) hr
   rw [hj] at e
   have e2 : (dens (enc xs[j / size]))[j % size]? = some x := by
    simp only [dens, List.getElem?_map] at hx ⊢
    rw [← e]; exact hx
   have := h2 a _ c rfl (j % size) x e2
   rw [← this]
   congr 1
   unfold elemAddr
   simp only [Int.toNat_natCast, add_add]
   show a.add j = a.add (j / size * size + 0 + j % size)
   rw [Nat.add_zero, hj]
theorem one_encM (q : NV1) : ∀ c ∈ encM q.1, c.den.oneCell' = true := by
 obtain ⟨⟨nd, k, y, s, p⟩, h1, h2, h3, h4⟩ := q
 intro c hc
 simp only [encM, encN, encE, List.cons_append, List.nil_append, List.mem_cons, List.not_mem_nil, or_false] at hc
 rcases hc with rfl | rfl | rfl | rfl | rfl | rfl | rfl | rfl | rfl | rfl | rfl | rfl | rfl | rfl | rfl | rfl | rfl | rfl <;> first | rfl | assumption
theorem nopV1 (xs : List NV1) : NoP (xs.map encV1) := NoP.map (fun _ => rfl) xs
theorem cloneN_c (VM : List NV1) (S : List Nat) (v : Value) (w : World) (h : SlOf nvT S w v (VM.map (·.1))) (hB : VM.length ≤ 1000000) : AnsR Tryz.prog 69 [v] [.row 86 18 (VM.map encV1)] w := by
 replace h := h.avoid (S' := []) (fun b hb => by cases hb)
 have hsrc : (VM.map (·.1)).map encM = VM.map encV1 := by rw [List.map_map]; rfl
 refine calls_plainB [.x v] Tryz.func69 rfl rfl (Nat.le_of_ble_eq_true rfl) rfl fun B hB => ?_
 repeat refine zq ?_
 refine zr ?_; conv => whnf
 repeat refine zq ?_
 refine zr ?_; conv => whnf
 refine ⟨h.sl, ?_⟩; conv => whnf
 repeat refine zq ?_
 refine At.cond rfl (fun hq => ?_) (fun hq => ?_)
 ·have hx : VM = [] := by
   obtain ⟨a, n, c, rfl, hnil, _⟩ := h.sl
   have hl := h.len
   rw [List.length_map] at hl
   cases a with
   | none => simp [slen] at hl; exact List.eq_nil_of_length_eq_zero (by omega)
   | some a => simp [isNilS] at hq
  subst hx
  repeat refine zq ?_
  refine zr ?_; conv => whnf
  repeat refine zq ?_
  refine At.ret (At.doneB tab_ok hB _ rfl fun w' hw => ansR_nil hw rfl rfl)
 ·refine At.skip ?_
  repeat refine zq ?_
  refine zr ?_; conv => whnf
  intro v1; conv => whnf
  refine ⟨VM.map encV1, ⟨fun w' hw => hsrc ▸ (h.fr hw.fr).srcO (fun p hp => by obtain ⟨q, _, rfl⟩ := List.mem_map.1 hp; exact one_encM q), nopV1 VM⟩, ?_⟩; conv => whnf
  refine ⟨⟨rfl, by simp; omega⟩, ?_⟩; conv => whnf
  intro v2; conv => whnf
  repeat refine zq ?_
  refine At.ret (At.doneB tab_ok hB _ rfl fun w' hw => ansR_row (id := 0) hw rfl rfl rfl)
def addAll (R : List SK) : List Nd → List Nd → List Nd × Int
 | N, [] => (N, 0)
 | N, n :: r => if (addB R N n.key n.text n.mark).2 = 0 then addAll R (addB R N n.key n.text n.mark).1 r else addB R N n.key n.text n.mark
theorem join_c (h rb : Nat) (B : List Nat) (N : List Nd) (hN : NOk N) (g rb2 : Nat) (N2 : List Nd) (hN2 : NOk N2) (R : List SK) (w : World) (hG : Gl w) (H : (histO h rb B N).holds w) (H2 : HR (nub B) w g rb2 N2) (hR : RgR B w rb R) :
  Calls Tryz.prog 41 #[ptr h, ptr g] w (fun e w' => ∃ L B', e = .returned (vI (addAll R N L).2) ∧ L.Perm N2 ∧ L.Pairwise (fun a b => ¬ ltN b a) ∧ (histO h rb B' (addAll R N L).1).holds w' ∧ Fr (nub B) w w' ∧ ∀ b ∈ nub B', b ∈ nub B ∨ w.heap.size ≤ b) := by
 have h8 := (histO_at H).1
 obtain ⟨v, m, hb, hv, hmp, _⟩ := H2.out
 obtain ⟨VM, hVM, hvm⟩ := nv_of hv
 have hVl : VM.length ≤ 4000 := by have := hN2.len; rw [← hVM] at this; simpa [ndsM] using this
 have hen := enter_objs (N := Tryz.f41.ntmps) (l := [.x (ptr h), .x (ptr g)]) (hp := [(0, histO h rb B N)]) (w := w) (fun o ho => by rw [List.mem_singleton.1 ho]; exact H) (by simp [histO, LO.blks, nub_nodup])
 have hS : ([(0, histO h rb B N)].flatMap fun o => o.2.blks) = nub B := by simp [histO, LO.blks]
 rw [hS] at hen
 refine calls_atB [.x (ptr h), .x (ptr g)] [(0, histO h rb B N)] (nub B) Tryz.func41 rfl rfl (Nat.le_of_ble_eq_true rfl) (WF.objs hen trivial trivial) hen fun B0 hB => ?_
 repeat refine zq ?_
 refine zr ?_; conv => whnf
 repeat refine zq ?_
 refine zr ?_; conv => whnf
 repeat refine zq ?_
 refine At.join (fun u : Unit => { N := Tryz.f41.ntmps, sl := [(0, some (.x ((ptr h)))), (1, some (.s (.c (.e (hs g) 3 0 0))))], gl := [], hp := [(0, histO h rb B N)], S := (nub B), ws := w }) (fun u : Unit => True) ?_ ?_
 ·refine At.cond (t := false) rfl (fun hq => by cases hq) (fun _ => At.skip ?_)
  refine At.meet fun w' hw => ⟨(), trivial, Le.of rfl rfl ⟨rfl, rfl, trivial⟩, hw.keep [0] rfl rfl rfl, ⟨⟨_, _, _, rfl⟩, trivial⟩, trivial⟩
 rintro ⟨⟩ _
 repeat refine zq ?_
 refine zr ?_; conv => whnf
 refine ⟨[.x v], fun w' hw => hb.load (n := 1) (i := 0) (off := 1) hw.fr rfl rfl, ?_⟩; conv => whnf
 refine ansR_call b69 (rd1 (nopV1 _)) (fun w' hw => cloneN_c VM (nub B) v w' (hvm.fr hw.fr) (by omega)) ?_
 intro vl; conv => whnf
 repeat refine zq ?_
 refine zr ?_; conv => whnf
 refine row_call (id := 1) b42 rfl (fun r v' L' => r = .tup [] ∧ v' = vl ∧ ∃ ys : List NV1, L' = ys.map encV1 ∧ ys.Perm VM ∧ ys.Pairwise (fun a b => ¬ ltN b.1.1 a.1.1)) (fun w' hw => ?_) ?_
 ·refine (sortN_c VM vl w' (hw.row (id := 1) rfl) (by omega)).mono ?_
  rintro e w'' ⟨ys, he, h1, h2, h3, h4⟩
  exact ⟨.tup [], vl, _, he, ⟨rfl, rfl, ys, rfl, h1, h2⟩, h3, h4, fun b hb => .inl hb⟩
 rintro r v3 L' ⟨rfl, rfl, ys, rfl, hperm, hsort⟩ hsl'
 refine ⟨fun v hv => (by cases hv), nopV1 _, ?_⟩; conv => whnf
 have hyl : ys.length = VM.length := hperm.length_eq
 generalize hL : ys.map (fun p => p.1.1) = L
 have hLl : L.length = ys.length := by rw [← hL, List.length_map]
 have hLp : L.Perm N2 := by rw [← hL, ← hVM]; unfold ndsM; rw [List.map_map]; exact hperm.map _
 have hLs : L.Pairwise (fun a b => ¬ ltN b a) := by rw [← hL, List.pairwise_map]; exact hsort
 repeat refine zq ?_
 refine zr ?_; conv => whnf
 refine ⟨rfl, ?_⟩; conv => whnf
 repeat refine zq ?_
 refine At.block ?_
 refine At.loopH (fun p' : Nat × List Nd × List Nat => { N := Tryz.f41.ntmps, sl := [(0, some (.x ((ptr h)))), (18, some (.s (.c (.o 1 v3)))), (19, some (.i ys.length)), (20, some (.i p'.1))], gl := [], hp := [(1, .row v3 86 18 (ys.map encV1)), (0, histO h rb p'.2.2 p'.2.1)], S := (nub B), ws := w }) (fun p' : Nat × List Nd × List Nat => p'.1 ≤ ys.length ∧ NOk p'.2.1 ∧ addAll R p'.2.1 (L.drop p'.1) = addAll R N L) (fun p' : Nat × List Nd × List Nat => ys.length - p'.1)
  (fun w' hw => ⟨(0, N, B), ⟨Nat.zero_le _, hN, rfl⟩, Le.of rfl rfl ⟨rfl, rfl, congrArg (Value.int .i64) (by simp), rfl, trivial⟩, hw.keep [1, 0] rfl rfl rfl, ⟨⟨_, _, _, rfl⟩, trivial⟩, ⟨(nopV1 _).okH, trivial⟩⟩) ?_
 rintro ⟨k, Na, BB⟩ ⟨hk, hNa, hinv⟩
 simp only at hk hNa hinv ⊢
 repeat refine zq ?_
 refine zr ?_; conv => whnf
 repeat refine zq ?_
 refine At.cond rfl (fun hc => At.skip ?_) (fun hc => At.exit ?_)
 ·have hlty : k < ys.length := by have := of_decide_eq_true hc; omega
  obtain ⟨y, hy⟩ : ∃ x, ys[k]? = some x := ⟨_, List.getElem?_eq_getElem hlty⟩
  have hlt : k < ys.length := by have := of_decide_eq_true hc; omega
  have hLk : L[k]? = some y.1.1 := by rw [← hL, List.getElem?_map, hy]; rfl
  have hdr : L.drop k = y.1.1 :: L.drop (k + 1) := by
   rw [List.drop_eq_getElem_cons (by omega)]
   rw [List.getElem?_eq_getElem (by omega)] at hLk
   rw [Option.some.inj hLk]
  obtain ⟨j, hj⟩ := List.getElem?_of_mem (hLp.mem_iff.1 (List.mem_of_getElem? hLk))
  obtain ⟨_, _, _, _, _, hsk, htl, hmr⟩ := hN2.nd j _ hj
  rw [hdr] at hinv
  have hone := y.2
  repeat refine zq ?_
  refine At.block ?_
  repeat refine zq ?_
  refine zr ?_; conv => whnf
  refine ⟨rfl, ?_⟩; conv => whnf
  refine ⟨by omega, ?_⟩; conv => whnf
  refine ⟨by (try simp only [List.length_map]); omega, ?_⟩; conv => whnf
  refine ⟨encV1 y, ⟨rfl, rfl, by omega, by rw [Int.toNat_natCast, List.getElem?_map, hy]; rfl⟩, ?_⟩; conv => whnf
  intro b7; conv => whnf
  refine ⟨hone.1, ?_⟩; conv => whnf
  refine ⟨hone.2.1, ?_⟩; conv => whnf
  refine ⟨hone.2.2.1, ?_⟩; conv => whnf
  refine ⟨hone.2.2.2, ?_⟩; conv => whnf
  repeat refine zq ?_
  refine zr ?_; conv => whnf
  refine add_call (id := 0) (h := h) (rb := rb) (B := BB) (N := Na) (R := R) (k := y.1.1.key) (mk := y.1.1.mark) (t := y.1.1.text) rfl hNa hsk htl (fun w' hw => hG.fr hw.fr fun b hb => h8 b (mem_nub.1 hb)) (fun w' hw => (hw.liftR (hR.avoid fun b hb => .inl (mem_nub.1 hb))).avoid fun b hb => .inl (List.mem_flatMap.2 ⟨_, look_mem (s := 0) rfl, mem_nub.2 hb⟩)) ?_
  intro B3; conv => whnf
  have hna := nok_add (R := R) (k := y.1.1.key) (mk := y.1.1.mark) (t := y.1.1.text) hNa hsk htl hmr
  repeat refine zq ?_
  refine zr ?_; conv => whnf
  repeat refine zq ?_
  refine At.cond rfl (fun hq => ?_) (fun hq => At.skip ?_)
  ·have hq1 : (addB R Na y.1.1.key y.1.1.text y.1.1.mark).2 ≠ 0 := by simpa using hq
   have hres : addAll R N L = addB R Na y.1.1.key y.1.1.text y.1.1.mark := by rw [← hinv]; unfold addAll; rw [if_neg hq1]
   repeat refine zq ?_
   refine zr ?_; conv => whnf
   repeat refine zq ?_
   refine At.ret (At.doneB tab_ok hB _ rfl fun w' hw => ?_)
   refine ⟨L, B3, ?_, hLp, hLs, ?_, hw.fr, fun b hb => hw.fresh (id := 0) rfl b hb⟩
   ·rw [hres]; rfl
   ·rw [hres]; exact hw.objs _ (look_mem (s := 0) rfl)
  ·have hq1 : (addB R Na y.1.1.key y.1.1.text y.1.1.mark).2 = 0 := by simpa using hq
   have hinv' : addAll R (addB R Na y.1.1.key y.1.1.text y.1.1.mark).1 (L.drop (k + 1)) = addAll R N L := by rw [← hinv]; conv => rhs; unfold addAll; rw [if_pos hq1]
   repeat refine zq ?_
   refine zr ?_; conv => whnf
   refine ⟨⟨by omega, by omega⟩, ?_⟩; conv => whnf
   refine At.nextH fun w' hw => ⟨(k + 1, (addB R Na y.1.1.key y.1.1.text y.1.1.mark).1, B3), ⟨by simp only; omega, hna, hinv'⟩, by simp only; omega, Le.of rfl rfl ⟨rfl, rfl, rfl, rfl, trivial⟩, hw.keep [1, 0] rfl rfl rfl, ⟨⟨_, _, _, rfl⟩, trivial⟩, ⟨(nopV1 _).okH, trivial⟩⟩
 ·have hge : k = ys.length := by have := of_decide_eq_false hc; omega
  subst hge
  rw [← hLl, List.drop_length] at hinv
  repeat refine zq ?_
  refine zr ?_; conv => whnf
  repeat refine zq ?_
  refine At.ret (At.doneB tab_ok hB _ rfl fun w' hw => ?_)
  refine ⟨L, BB, ?_, hLp, hLs, ?_, hw.fr, fun b hb => hw.fresh (id := 0) rfl b hb⟩
  ·rw [← hinv]; rfl
  ·rw [← hinv]; exact hw.objs _ (look_mem (s := 0) rfl)
end Go.Proofs.YtdigebokbhmfaaaGreatDoor
namespace Go.Vc
theorem hpSet_split : ∀ {hp : List (Nat × LO)} {i : Nat} {o : LO}, look hp i = some o → ∃ l1 l2, hp = l1 ++ (i, o) :: l2 ∧ ∀ o', hpSet hp i o' = l1 ++ (i, o') :: l2
 | [], _, _, h => by cases h
 | (t, v) :: r, i, o, h => by
  simp only [look] at h
  split at h
  ·rename_i e
   cases h
   have := Nat.eq_of_beq_eq_true e
   subst this
   exact ⟨[], r, rfl, fun o' => by simp [hpSet]⟩
  ·rename_i e
   obtain ⟨l1, l2, e1, e2⟩ := hpSet_split h
   refine ⟨(t, v) :: l1, l2, by rw [e1]; rfl, fun o' => ?_⟩
   have : hpSet ((t, v) :: r) i o' = (t, v) :: hpSet r i o' := by simp [hpSet, e]
   rw [this, e2]; rfl
theorem LO.blks_nodup : ∀ o : LO, o.blks.Nodup
 | .box b _ _ => by simp [LO.blks]
 | .row v _ _ _ => by simp only [LO.blks]; unfold blkOf; split <;> simp
 | .ab B _ => nub_nodup B
theorem flat_perm {α β : Type} (f : α → List β) (l1 l2 : List α) (x : α) : (List.flatMap f (l1 ++ x :: l2)).Perm (f x ++ List.flatMap f (l1 ++ l2)) := by
 rw [List.flatMap_append, List.flatMap_cons, List.flatMap_append, ← List.append_assoc, ← List.append_assoc]
 exact List.perm_append_comm.append_right _
theorem hpSet_cons_eq {t i : Nat} {v o : LO} {r : List (Nat × LO)} : hpSet ((t, v) :: r) i o = if t = i then (t, o) :: r else (t, v) :: hpSet r i o := by
 by_cases h : t = i
 ·subst h; simp [hpSet]
 ·have hb : Nat.beq t i = false := by rw [← Bool.not_eq_true, Nat.beq_eq]; exact h
  simp [hpSet, h, hb]
theorem hpSet_comm {i j : Nat} {a b : LO} (hne : i ≠ j) : ∀ hp : List (Nat × LO), hpSet (hpSet hp i a) j b = hpSet (hpSet hp j b) i a
 | [] => rfl
 | (t, v) :: r => by
  by_cases h1 : t = i
  ·subst h1
   simp only [hpSet_cons_eq, if_true, if_neg hne]
  ·by_cases h2 : t = j
   ·subst h2; simp only [hpSet_cons_eq, if_true, if_neg h1]
   ·simp only [hpSet_cons_eq, if_neg h1, if_neg h2, hpSet_comm hne r]
theorem hpSet_idem {i : Nat} {a b : LO} : ∀ hp : List (Nat × LO), hpSet (hpSet hp i a) i b = hpSet hp i b
 | [] => rfl
 | (t, v) :: r => by
  by_cases h1 : t = i
  ·subst h1; simp only [hpSet_cons_eq, if_true]
  ·simp only [hpSet_cons_eq, if_neg h1, hpSet_idem r]
theorem mem_split {α : Type} {l1 l2 : List α} {x q : α} (h : q ∈ l1 ++ x :: l2) : q = x ∨ q ∈ l1 ++ l2 := by
 rcases List.mem_append.1 h with h | h
 ·exact .inr (List.mem_append.2 (.inl h))
 ·exact (List.mem_cons.1 h).imp id fun h => List.mem_append.2 (.inr h)
theorem mem_unsplit {α : Type} {l1 l2 : List α} {x q : α} (h : q ∈ l1 ++ l2) : q ∈ l1 ++ x :: l2 := by
 rcases List.mem_append.1 h with h | h
 ·exact List.mem_append.2 (.inl h)
 ·exact List.mem_append.2 (.inr (List.mem_cons_of_mem _ h))
theorem look_hpSet_same' {i : Nat} {o' : LO} : ∀ {hp : List (Nat × LO)} {o : LO}, look hp i = some o → look (hpSet hp i o') i = some o'
 | [], _, h => by cases h
 | (t, v) :: r, o, h => by
  by_cases h1 : t = i
  ·subst h1; simp [hpSet_cons_eq, look]
  ·rw [hpSet_cons_eq, if_neg h1]
   have hb : Nat.beq t i = false := by rw [← Bool.not_eq_true, Nat.beq_eq]; exact h1
   simp only [look, hb] at h ⊢
   exact look_hpSet_same' h
theorem Holds.set2F {st : St} {w w' : World} {i1 i2 : Nat} {o1 o1' o2 o2' : LO} (h : Holds st w) (hl1 : look st.hp i1 = some o1) (hl2 : look st.hp i2 = some o2) (hne : i2 ≠ i1) (hf : Fr (o1.blks ++ o2.blks) w w')
  (ho1 : o1'.holds w') (ho2 : o2'.holds w') (hb1 : ∀ b ∈ o1'.blks, b ∈ o1.blks ++ o2.blks ∨ w.heap.size ≤ b) (hb2 : ∀ b ∈ o2'.blks, b ∈ o1.blks ++ o2.blks ∨ w.heap.size ≤ b) (hd : ∀ b ∈ o1'.blks, b ∉ o2'.blks) :
  Holds (st.setHp (hpSet (hpSet st.hp i1 o1') i2 o2')) w' := by
 have lt := h.blk_lt
 let D : LO := .ab [] (fun _ => True)
 obtain ⟨a1, a2, e1, e1'⟩ := hpSet_split hl1
 have hl2' : look (hpSet st.hp i1 D) i2 = some o2 := by rw [look_hpSet_other hne]; exact hl2
 obtain ⟨b1, b2, e2, e2'⟩ := hpSet_split hl2'
 have hl1' : look (hpSet (hpSet st.hp i1 D) i2 o2') i1 = some D := by rw [look_hpSet_other (Ne.symm hne)]; exact look_hpSet_same' hl1
 obtain ⟨c1, c2, e3, e3'⟩ := hpSet_split hl1'
 have hfin : hpSet (hpSet st.hp i1 o1') i2 o2' = c1 ++ (i1, o1') :: c2 := by
  rw [← e3', hpSet_comm hne, hpSet_idem]
 let f : Nat × LO → List Nat := fun o => o.2.blks
 have hp0 : (List.flatMap f st.hp).Perm (o1.blks ++ List.flatMap f (a1 ++ a2)) := by rw [e1]; exact flat_perm f a1 a2 (i1, o1)
 have hpD : (List.flatMap f (hpSet st.hp i1 D)).Perm (List.flatMap f (a1 ++ a2)) := by rw [e1' D]; exact flat_perm f a1 a2 (i1, D)
 have hpD2 : (List.flatMap f (hpSet st.hp i1 D)).Perm (o2.blks ++ List.flatMap f (b1 ++ b2)) := by rw [e2]; exact flat_perm f b1 b2 (i2, o2)
 have hpX : (List.flatMap f (hpSet (hpSet st.hp i1 D) i2 o2')).Perm (o2'.blks ++ List.flatMap f (b1 ++ b2)) := by rw [e2' o2']; exact flat_perm f b1 b2 (i2, o2')
 have hpX2 : (List.flatMap f (hpSet (hpSet st.hp i1 D) i2 o2')).Perm (List.flatMap f (c1 ++ c2)) := by rw [e3]; exact flat_perm f c1 c2 (i1, D)
 have hpF : (List.flatMap f (hpSet (hpSet st.hp i1 o1') i2 o2')).Perm (o1'.blks ++ List.flatMap f (c1 ++ c2)) := by rw [hfin]; exact flat_perm f c1 c2 (i1, o1')
 have P0 : (List.flatMap f st.hp).Perm (o1.blks ++ (o2.blks ++ List.flatMap f (b1 ++ b2))) := hp0.trans ((hpD.symm.trans hpD2).append_left _)
 have P1 : (List.flatMap f (hpSet (hpSet st.hp i1 o1') i2 o2')).Perm (o1'.blks ++ (o2'.blks ++ List.flatMap f (b1 ++ b2))) := hpF.trans ((hpX2.symm.trans hpX).append_left _)
 have nd0 := P0.nodup_iff.1 h.nodup
 obtain ⟨n1, n2, n3⟩ := List.nodup_append.1 nd0
 obtain ⟨n4, n5, n6⟩ := List.nodup_append.1 n2
 have hR : ∀ x ∈ List.flatMap f (b1 ++ b2), x ∈ st.blks ∧ x ∉ o1.blks ++ o2.blks := fun x hx => ⟨P0.mem_iff.2 (List.mem_append.2 (.inr (List.mem_append.2 (.inr hx)))), fun hm => (List.mem_append.1 hm).elim (fun hm => n3 x hm x (List.mem_append.2 (.inr hx)) rfl) (fun hm => n6 x hm x hx rfl)⟩
 have ndn : (o1'.blks ++ (o2'.blks ++ List.flatMap f (b1 ++ b2))).Nodup := List.nodup_append.2 ⟨LO.blks_nodup _, List.nodup_append.2 ⟨LO.blks_nodup _, n5, fun x hx y hy e => by
   subst e
   rcases hb2 x hx with hx' | hx'
   ·exact (hR x hy).2 hx'
   ·have := lt x (hR x hy).1; omega⟩, fun x hx y hy e => by
   subst e
   rcases List.mem_append.1 hy with hy | hy
   ·exact hd x hx hy
   ·rcases hb1 x hx with hx' | hx'
    ·exact (hR x hy).2 hx'
    ·have := lt x (hR x hy).1; omega⟩
 have hsub : ∀ b ∈ o1.blks ++ o2.blks, b ∈ st.blks := fun b hb => (List.mem_append.1 hb).elim (fun hb' => List.mem_flatMap.2 ⟨_, look_mem hl1, hb'⟩) (fun hb' => List.mem_flatMap.2 ⟨_, look_mem hl2, hb'⟩)
 have hall : ∀ b ∈ List.flatMap f (hpSet (hpSet st.hp i1 o1') i2 o2'), b ∈ st.blks ∨ w.heap.size ≤ b := fun b hb => by
  rcases List.mem_append.1 (P1.mem_iff.1 hb) with hb | hb
  ·exact (hb1 b hb).imp (hsub b) id
  ·rcases List.mem_append.1 hb with hb | hb
   ·exact (hb2 b hb).imp (hsub b) id
   ·exact .inl (hR b hb).1
 refine ⟨fun q hq => ?_, P1.nodup_iff.2 ndn, h.fr.trans' hf (fun b hb' => h.own b (hsub b hb')), fun b hb' => (hall b hb').elim (h.own b) (fun hb => .inr (Nat.le_trans h.fr.size hb))⟩
 have hq' : q ∈ hpSet (hpSet st.hp i1 o1') i2 o2' := hq
 rw [hfin] at hq'
 rcases mem_split hq' with rfl | hq1
 ·exact ho1
 ·have hqX : q ∈ hpSet (hpSet st.hp i1 D) i2 o2' := by rw [e3]; exact mem_unsplit hq1
  rw [e2' o2'] at hqX
  rcases mem_split hqX with rfl | hq2
  ·exact ho2
  ·have hqD : q ∈ hpSet st.hp i1 D := by rw [e2]; exact mem_unsplit hq2
   rw [e1' D] at hqD
   rcases mem_split hqD with rfl | hq3
   ·exact ⟨fun b hb => (by cases hb), fun _ _ => trivial⟩
   ·have hqh : q ∈ st.hp := by rw [e1]; exact mem_unsplit hq3
    exact LO.frame hf (h.objs q hqh) fun b hb hm => (hR b (List.mem_flatMap.2 ⟨q, hq2, hb⟩)).2 hm
theorem two_callF {P : Program} {f : FuncId} {args : List Value} {st : St} {d : Option Nat} {K : St → Prop} {i1 i2 : Nat} {o1 o2 : LO} (hb : Body P f) (hl1 : look st.hp i1 = some o1) (hl2 : look st.hp i2 = some o2) (hne : i2 ≠ i1)
  (Good : RV → LO → LO → Prop)
  (h : ∀ w, Holds st w → Calls P f args.toArray w (fun e w' => ∃ r o1' o2', e = .returned (RV.den r) ∧ Good r o1' o2' ∧ o1'.holds w' ∧ o2'.holds w' ∧ Fr (o1.blks ++ o2.blks) w w' ∧ (∀ b ∈ o1'.blks, b ∈ o1.blks ++ o2.blks ∨ w.heap.size ≤ b) ∧ (∀ b ∈ o2'.blks, b ∈ o1.blks ++ o2.blks ∨ w.heap.size ≤ b) ∧ (∀ b ∈ o1'.blks, b ∉ o2'.blks)))
  (hk : ∀ r o1' o2', Good r o1' o2' → (Stays o1 o1' ∧ Stays o2 o2' ∧ LOok st.hp o1' ∧ LOok (hpSet st.hp i1 o1') o2' ∧ RVok (hpSet (hpSet st.hp i1 o1') i2 o2') r) ∧ hpSetK st.hp i1 o1' (fun hp1 => hpSetK hp1 i2 o2' (fun hp => st.withHp hp (fun st' => goPut st' d r K)))) : UCall P st f args d K :=
 .inl ⟨hb, fun hwf w hw => (h w hw).mono fun e w' ⟨r, o1', o2', he, hg, hh1, hh2, hf, hbl1, hbl2, hdd⟩ => by
  obtain ⟨⟨s1, s2, k1, k2, k3⟩, hK⟩ := hk r o1' o2' hg
  rw [hpSetK_eq, hpSetK_eq] at hK
  have wf1 : WF (st.setHp (hpSet st.hp i1 o1')) := hwf.setO hl1 s1 k1
  have hl2' : look (st.setHp (hpSet st.hp i1 o1')).hp i2 = some o2 := by show look (hpSet st.hp i1 o1') i2 = _; rw [look_hpSet_other hne]; exact hl2
  have wf2 := wf1.setO hl2' s2 k2
  exact ⟨r, st.setHp (hpSet (hpSet st.hp i1 o1') i2 o2'), he, ⟨rfl, rfl, rfl, rfl⟩, wf2, k3, hw.set2F hl1 hl2 hne hf hh1 hh2 hbl1 hbl2 hdd, hK⟩⟩
end Go.Vc
namespace Go.Proofs.YtdigebokbhmfaaaGreatDoor
open Go.Vc Rt Go.Bs
set_option maxHeartbeats 1000000
def sgT (R : List SK) (k : Int) (t : List UInt8) : Int × List UInt8 × Int := if isKeyB k then (k, t, signM R k t) else (0, [], 0)
theorem signV_eq (R : List SK) (k : Int) (t : List UInt8) : signV R k t = vSg (sgT R k t).1 (sgT R k t).2.1 (sgT R k t).2.2 := by
 unfold signV sgT; split <;> rfl
theorem sign_call {st : St} {d : Option Nat} {K : St → Prop} {id rb : Nat} {B : List Nat} {R : List SK} {k : Int} {t : List UInt8} (hl : Vc.look st.hp id = some (ringO rb B R)) (hk : okSK (k, t)) (hRl : R.length ≤ 1000000) (h8 : ∀ w, Holds st w → 8 ≤ w.heap.size)
  (hK : ∀ B', hpSetK st.hp id (ringO rb B' (signL R k t)) (fun hp => st.withHp hp (fun st' => goPut st' d (.s (.agg [.i (sgT R k t).1, .s (sgT R k t).2.1, .i (sgT R k t).2.2])) K))) : UCall Tryz.prog st 27 [ptr rb, vI k, sv t] d K :=
 obj_call (id := id) (o := ringO rb B R) b27 hl (fun r o' => r = .s (.agg [.i (sgT R k t).1, .s (sgT R k t).2.1, .i (sgT R k t).2.2]) ∧ ∃ B', o' = ringO rb B' (signL R k t))
  (fun w hw => by
   obtain ⟨hB8, v, m, hat, hsub⟩ := ringO_at (hw.objs _ (look_mem hl))
   refine (sign_c rb v m R k t hk hRl w hat).mono ?_
   rintro e w' ⟨v', he, hat', hf, hnew⟩
   have hn : ∀ x ∈ partsR rb v' m, x ∈ B ∨ w.heap.size ≤ x := by
    intro x hx
    rcases List.mem_cons.1 hx with rfl | hx
    ·exact .inl (hsub _ (by simp [partsR]))
    ·rcases List.mem_append.1 hx with hx | hx
     ·exact (hnew x hx).imp (fun hx => hsub _ (by simp [partsR, hx])) _root_.id
     ·exact .inl (hsub _ (by rw [List.mem_singleton.1 hx]; simp [partsR]))
   refine ⟨.s (.agg [.i (sgT R k t).1, .s (sgT R k t).2.1, .i (sgT R k t).2.2]), ringO rb (partsR rb v' m) (signL R k t), ?_, ⟨rfl, _, rfl⟩, ringO_of hat' fun x hx => (hn x hx).elim (hB8 x) (fun h => Nat.le_trans (h8 w hw) h), hf.mono fun b hb => .inl (mem_nub.2 (hsub b hb)), fun b hb => (hn b (mem_nub.1 hb)).imp mem_nub.2 _root_.id⟩
   rw [he, signV_eq]; rfl)
  (fun r o' ⟨hr, B', ho⟩ => by
   subst hr; subst ho
   exact ⟨⟨fun b T cells e => (by unfold ringO at e; cases e), trivial, fun c hc => by simp only [List.mem_cons, List.not_mem_nil, or_false] at hc; rcases hc with rfl | rfl | rfl <;> trivial⟩, hK B'⟩)
def seqW (N : List Nd) (a : Int) (q : Int) (l : List Int) : Int := l.foldl (fun q x => if (entB N x).author = a then q + 1 else q) q
theorem seqW_bd (N : List Nd) (a : Int) : ∀ (l : List Int) (q : Int), q ≤ seqW N a q l ∧ seqW N a q l ≤ q + l.length
 | [], q => ⟨Int.le_refl _, by simp [seqW]⟩
 | x :: r, q => by
  obtain ⟨h1, h2⟩ := seqW_bd N a r (if (entB N x).author = a then q + 1 else q)
  have e : seqW N a q (x :: r) = seqW N a (if (entB N x).author = a then q + 1 else q) r := rfl
  rw [e]
  simp only [List.length_cons]
  split at h1 <;> rename_i hq <;> simp only [hq, if_true, if_false] at h1 h2 ⊢ <;> omega
theorem marksB_mem {N : List Nd} {x : Int} (h : x ∈ marksB N) : ∃ n ∈ N, n.mark = x := by
 unfold marksB at h; rw [sortI_mem] at h; exact List.mem_map.1 h
theorem headsB_mem {N : List Nd} {x : Int} (h : x ∈ headsB N) : ∃ n ∈ N, n.mark = x := by
 unfold headsB at h; rw [sortI_mem] at h
 obtain ⟨p, hp, e⟩ := List.mem_map.1 h
 exact ⟨p.1, List.fst_mem_of_mem_zipIdx (List.mem_filter.1 hp).1, e⟩
end Go.Proofs.YtdigebokbhmfaaaGreatDoor
namespace Go.Proofs.YtdigebokbhmfaaaGreatDoor
open Go.Vc Rt Go.Bs
end Go.Proofs.YtdigebokbhmfaaaGreatDoor
namespace Go.Proofs.YtdigebokbhmfaaaGreatDoor
open Go.Vc Rt Go.Bs
set_option maxHeartbeats 1000000
end Go.Proofs.YtdigebokbhmfaaaGreatDoor
namespace Go.Proofs.YtdigebokbhmfaaaGreatDoor
open Go.Vc Rt Go.Bs
set_option maxHeartbeats 1000000
end Go.Proofs.YtdigebokbhmfaaaGreatDoor
namespace Go.Proofs.YtdigebokbhmfaaaGreatDoor
open Go.Vc Rt Go.Bs
set_option maxHeartbeats 1000000
end Go.Proofs.YtdigebokbhmfaaaGreatDoor
namespace Go.Proofs.YtdigebokbhmfaaaGreatDoor
open Go.Vc Rt Go.Bs
theorem eq_of_upto {α : Type} {a b : List α} (hl : a.length = b.length) (h : ∀ (i : Nat) x y, i < a.length → a[i]? = some x → b[i]? = some y → x = y) : a = b := by
 apply List.ext_getElem?
 intro i
 by_cases hi : i < a.length
 ·rw [List.getElem?_eq_getElem hi, List.getElem?_eq_getElem (by omega)]
  rw [h i _ _ hi (List.getElem?_eq_getElem hi) (List.getElem?_eq_getElem (by omega))]
 ·rw [List.getElem?_eq_none (by omega), List.getElem?_eq_none (by omega)]
theorem ints_r (a b : List Int) (v u : Value) (w : World) (h : SlOf intT [] w v a) (h' : SlOf intT [] w u b) : Ans Tryz.prog 29 [v, u] (.b (decide (a = b))) w := by
 have hsm := h.small
 have hln := h.len
 have hln' := h'.len
 refine calls_plainB [.x v, .x u] Tryz.func29 rfl rfl (Nat.le_of_ble_eq_true rfl) rfl fun B hB => ?_
 repeat refine zq ?_
 refine zr ?_; conv => whnf
 repeat refine zq ?_
 refine zr ?_; conv => whnf
 refine ⟨h.sl, ?_⟩; conv => whnf
 refine ⟨h'.sl, ?_⟩; conv => whnf
 repeat refine zq ?_
 refine At.cond rfl (fun hq => ?_) (fun hq => At.skip ?_)
 ·have hne : a.length ≠ b.length := by simp at hq; omega
  repeat refine zq ?_
  refine zr ?_; conv => whnf
  repeat refine zq ?_
  refine At.ret (At.doneB tab_ok hB _ rfl fun w' hw => ⟨?_, hw.fr⟩)
  rw [decide_eq_false (fun e => hne (by rw [e]))]
 have hne : a.length = b.length := by simp at hq; omega
 clear hq
 repeat refine zq ?_
 refine zr ?_; conv => whnf
 repeat refine zq ?_
 refine At.block ?_
 refine At.loopH (fun k : Nat => { N := Tryz.f29.ntmps, sl := [(0, some (.x v)), (1, some (.x u)), (5, some (.i k))], gl := [], hp := [], S := [], ws := w }) (fun k : Nat => k ≤ a.length ∧ ∀ (j : Nat) x y, j < k → a[j]? = some x → b[j]? = some y → x = y) (fun k : Nat => a.length - k)
  (fun w' hw => ⟨0, ⟨Nat.zero_le _, fun j x y hj => by omega⟩, Le.of rfl rfl ⟨rfl, rfl, rfl, trivial⟩, hw.same rfl rfl rfl, trivial, trivial⟩) ?_
 rintro k ⟨hk, hall⟩
 repeat refine zq ?_
 refine zr ?_; conv => whnf
 refine ⟨h.sl, ?_⟩; conv => whnf
 repeat refine zq ?_
 refine At.cond rfl (fun hc => At.skip ?_) (fun hc => At.exit ?_)
 ·have hlt : k < a.length := by have := of_decide_eq_true hc; omega
  obtain ⟨x, hx⟩ : ∃ x, a[k]? = some x := ⟨_, List.getElem?_eq_getElem hlt⟩
  have hlt : k < a.length := by have := of_decide_eq_true hc; omega
  obtain ⟨y, hy⟩ : ∃ y, b[k]? = some y := ⟨_, List.getElem?_eq_getElem (by omega)⟩
  repeat refine zq ?_
  refine At.block ?_
  repeat refine zq ?_
  refine At.planG tab_ok mixed [] (.take 0 (.take 1 (.take 2 (.take 3 (.take 4 (.take 5 (.take 6 (.take 7 (.take 8 (.done)))))))))) (by kernel_rfl) (by kernel_rfl) trivial ?_; conv => whnf
  refine ⟨by omega, ?_⟩; conv => whnf
  refine ⟨by omega, ?_⟩; conv => whnf
  refine ⟨[.i x], fun w' hw => h.load (n := 1) hw hx rfl, ?_⟩; conv => whnf
  refine ⟨by omega, ?_⟩; conv => whnf
  refine ⟨by omega, ?_⟩; conv => whnf
  refine ⟨[.i y], fun w' hw => h'.load (n := 1) hw hy rfl, ?_⟩; conv => whnf
  repeat refine zq ?_
  refine At.cond rfl (fun hq => ?_) (fun hq => At.skip ?_)
  ·have hxy : x ≠ y := by simpa using hq
   repeat refine zq ?_
   refine zr ?_; conv => whnf
   repeat refine zq ?_
   refine At.ret (At.doneB tab_ok hB _ rfl fun w' hw => ⟨?_, hw.fr⟩)
   rw [decide_eq_false (fun e => hxy (by subst e; rw [hx] at hy; exact Option.some.inj hy))]
  ·have hxy : x = y := by simpa using hq
   repeat refine zq ?_
   refine zr ?_; conv => whnf
   refine ⟨⟨by omega, by omega⟩, ?_⟩; conv => whnf
   refine At.nextH fun w' hw => ⟨k + 1, ⟨by omega, fun j x' y' hj hx' hy' => by rcases Nat.lt_or_ge j k with hj' | hj'; exact hall j x' y' hj' hx' hy'; obtain rfl : j = k := (by omega); rw [hx] at hx'; rw [hy] at hy'; cases hx'; cases hy'; exact hxy⟩, by omega, Le.of rfl rfl ⟨rfl, rfl, rfl, trivial⟩, hw.keep [] rfl rfl rfl, trivial, trivial⟩
 ·have hge : k = a.length := by have := of_decide_eq_false hc; omega
  subst hge
  repeat refine zq ?_
  refine zr ?_; conv => whnf
  repeat refine zq ?_
  refine At.ret (At.doneB tab_ok hB _ rfl fun w' hw => ⟨?_, hw.fr⟩)
  rw [decide_eq_true (eq_of_upto hne fun i x y hi => hall i x y hi)]
end Go.Proofs.YtdigebokbhmfaaaGreatDoor
namespace Go.Proofs.YtdigebokbhmfaaaGreatDoor.Ap
open Go.Vc Rt Go.Bs
theorem _root_.Go.Vc.Holds.nilK {st st' : St} {w : World} (h : Holds st w) (ids : List Nat) {id E size : Nat} (h1 : st'.hp = (id, .row (.slice none 0 0) E size []) :: keepIds ids st.hp) (h2 : st'.S = st.S) (h3 : st'.ws = st.ws) : Holds st' w := by
 have h' : Holds { st with hp := keepIds ids st.hp } w := h.keep ids rfl rfl rfl
 exact h'.nil (st' := st') h1 h2 h3
def vB (b : Bool) : Value := .bool b
theorem um92 : Tryz.prog.underlying 92 = some (.map 3 4) := by kernel_rfl
theorem z4 (w : World) : (zeroValue 4).run Tryz.prog w = .ok (CV.b false).den w := by kernel_rfl
theorem equal_r (a b : List Int) (v u : Value) (w : World) (h : SlOf intT [] w v a) (h' : SlOf intT [] w u b) : Ans Tryz.prog 47 [v, u] (.b (decide (a = b))) w := by
 have hsm := h.small
 have hln := h.len
 have hln' := h'.len
 refine calls_plainB [.x v, .x u] Tryz.func47 rfl rfl (Nat.le_of_ble_eq_true rfl) rfl fun B hB => ?_
 repeat refine zq ?_
 refine zr ?_; conv => whnf
 repeat refine zq ?_
 refine zr ?_; conv => whnf
 refine ⟨h.sl, ?_⟩; conv => whnf
 refine ⟨h'.sl, ?_⟩; conv => whnf
 repeat refine zq ?_
 refine At.cond rfl (fun hq => ?_) (fun hq => At.skip ?_)
 ·have hne : a.length ≠ b.length := by simp at hq; omega
  repeat refine zq ?_
  refine zr ?_; conv => whnf
  repeat refine zq ?_
  refine At.ret (At.doneB tab_ok hB _ rfl fun w' hw => ⟨?_, hw.fr⟩)
  rw [decide_eq_false (fun e => hne (by rw [e]))]
 have hne : a.length = b.length := by simp at hq; omega
 clear hq
 repeat refine zq ?_
 refine zr ?_; conv => whnf
 refine ⟨h.sl, ?_⟩; conv => whnf
 repeat refine zq ?_
 refine At.block ?_
 refine At.loopH (fun k : Nat => { N := Tryz.f47.ntmps, sl := [(0, some (.x v)), (1, some (.x u)), (12, some (.i a.length)), (13, some (.i k))], gl := [], hp := [], S := [], ws := w }) (fun k : Nat => k ≤ a.length ∧ ∀ (j : Nat) x y, j < k → a[j]? = some x → b[j]? = some y → x = y) (fun k : Nat => a.length - k)
  (fun w' hw => ⟨0, ⟨Nat.zero_le _, fun j x y hj => by omega⟩, Le.of rfl rfl ⟨rfl, rfl, congrArg (Value.int .i64) hln, rfl, trivial⟩, hw.same rfl rfl rfl, trivial, trivial⟩) ?_
 rintro k ⟨hk, hall⟩
 repeat refine zq ?_
 refine zr ?_; conv => whnf
 repeat refine zq ?_
 refine At.cond rfl (fun hc => At.skip ?_) (fun hc => At.exit ?_)
 ·have hlt : k < a.length := by have := of_decide_eq_true hc; omega
  obtain ⟨x, hx⟩ : ∃ x, a[k]? = some x := ⟨_, List.getElem?_eq_getElem hlt⟩
  have hlt : k < a.length := by have := of_decide_eq_true hc; omega
  obtain ⟨y, hy⟩ : ∃ y, b[k]? = some y := ⟨_, List.getElem?_eq_getElem (by omega)⟩
  repeat refine zq ?_
  refine At.block ?_
  repeat refine zq ?_
  refine zr ?_; conv => whnf
  repeat refine zq ?_
  refine At.planG tab_ok mixed [] (.take 0 (.take 1 (.take 2 (.take 3 (.take 4 (.take 5 (.take 6 (.take 7 (.take 8 (.done)))))))))) (by kernel_rfl) (by kernel_rfl) trivial ?_; conv => whnf
  refine ⟨by omega, ?_⟩; conv => whnf
  refine ⟨by omega, ?_⟩; conv => whnf
  refine ⟨[.i x], fun w' hw => h.load (n := 1) hw hx rfl, ?_⟩; conv => whnf
  refine ⟨by omega, ?_⟩; conv => whnf
  refine ⟨by omega, ?_⟩; conv => whnf
  refine ⟨[.i y], fun w' hw => h'.load (n := 1) hw hy rfl, ?_⟩; conv => whnf
  repeat refine zq ?_
  refine At.cond rfl (fun hq => ?_) (fun hq => At.skip ?_)
  ·have hxy : x ≠ y := by simpa using hq
   repeat refine zq ?_
   refine zr ?_; conv => whnf
   repeat refine zq ?_
   refine At.ret (At.doneB tab_ok hB _ rfl fun w' hw => ⟨?_, hw.fr⟩)
   rw [decide_eq_false (fun e => hxy (by subst e; rw [hx] at hy; exact Option.some.inj hy))]
  ·have hxy : x = y := by simpa using hq
   repeat refine zq ?_
   refine zr ?_; conv => whnf
   refine ⟨⟨by omega, by omega⟩, ?_⟩; conv => whnf
   refine At.nextH fun w' hw => ⟨k + 1, ⟨by omega, fun j x' y' hj hx' hy' => by rcases Nat.lt_or_ge j k with hj' | hj'; exact hall j x' y' hj' hx' hy'; obtain rfl : j = k := (by omega); rw [hx] at hx'; rw [hy] at hy'; cases hx'; cases hy'; exact hxy⟩, by omega, Le.of rfl rfl ⟨rfl, rfl, rfl, rfl, trivial⟩, hw.keep [] rfl rfl rfl, trivial, trivial⟩
 ·have hge : k = a.length := by have := of_decide_eq_false hc; omega
  subst hge
  repeat refine zq ?_
  refine zr ?_; conv => whnf
  repeat refine zq ?_
  refine At.ret (At.doneB tab_ok hB _ rfl fun w' hw => ⟨?_, hw.fr⟩)
  rw [decide_eq_true (eq_of_upto hne fun i x y hi => hall i x y hi)]
theorem same_r (h rb g rb2 : Nat) (N N2 : List Nd) (hN : NOk N) (hN2 : NOk N2) (w : World) (H : HR [] w h rb N) (H2 : HR [] w g rb2 N2) : Ans Tryz.prog 16 [ptr h, ptr g] (.b (decide (marksB N = marksB N2))) w := by
 have hl1 := hN.len
 have hl2 := hN2.len
 have hm1 := marksB_len N
 have hm2 := marksB_len N2
 refine calls_e [.x (ptr h), .x (ptr g)] Tryz.func16 rfl rfl (Nat.le_of_ble_eq_true rfl) trivial fun B hB => ?_
 repeat refine zq ?_
 refine zr ?_; conv => whnf
 repeat refine zq ?_
 refine At.regionG tab_ok ?_; conv => whnf
 refine ansR_call b12 (rd1 (nopI _)) (fun w' hw => marks_r h rb N hN w' (H.ext hw.fr)) ?_
 intro v1; conv => whnf
 refine ansR_call b12 (rd1 (nopI _)) (fun w' hw => marks_r g rb2 N2 hN2 w' (H2.ext hw.fr)) ?_
 intro v2; conv => whnf
 refine ans_call b47 rfl (fun w' hw => equal_r (marksB N) (marksB N2) v1 v2 w' (slI _ (hw.row (id := 0) rfl) (by omega)) (slI _ (hw.row (id := 1) rfl) (by omega))) ?_; conv => whnf
 repeat refine zq ?_
 refine At.ret (At.doneB tab_ok hB _ rfl fun w' hw => ⟨rfl, hw.fr⟩)
end Go.Proofs.YtdigebokbhmfaaaGreatDoor.Ap
