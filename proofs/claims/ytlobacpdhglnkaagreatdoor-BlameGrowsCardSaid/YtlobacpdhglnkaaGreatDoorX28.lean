/- Texts that the law leans on. -/
import Derived.Test.YtlobacpdhglnkaaGreatDoorX27
import Derived.Scope
import Derived.Shelf.SlIterI.Nil
import Derived.Shelf.SortM.Plain
import Derived.Shelf.SortM.SortNone
import Derived.Ground.GgzProg
import Derived.Ground.SlgmProg
import Derived.Test.YtlobacpdhglnkaaGreatDoorProg
set_option linter.unusedVariables false
set_option linter.unusedSimpArgs false
namespace Go.Proofs.YtlobacpdhglnkaaGreatDoor
open Go.Vc Rt Go.Bs
set_option maxHeartbeats 1000000
def sgT (R : List SK) (k : Int) (t : List UInt8) : Int × List UInt8 × Int := if isKeyB k then (k, t, signM R k t) else (0, [], 0)
theorem signV_eq (R : List SK) (k : Int) (t : List UInt8) : signV R k t = vSg (sgT R k t).1 (sgT R k t).2.1 (sgT R k t).2.2 := by
 unfold signV sgT; split <;> rfl
theorem sign_call {st : St} {d : Option Nat} {K : St → Prop} {id rb : Nat} {B : List Nat} {R : List SK} {k : Int} {t : List UInt8} (hl : Vc.look st.hp id = some (ringO rb B R)) (hk : okSK (k, t)) (hRl : R.length ≤ 1000000) (h8 : ∀ w, Holds st w → 8 ≤ w.heap.size)
  (hK : ∀ B', hpSetK st.hp id (ringO rb B' (signL R k t)) (fun hp => st.withHp hp (fun st' => goPut st' d (.s (.agg [.i (sgT R k t).1, .s (sgT R k t).2.1, .i (sgT R k t).2.2])) K))) : UCall Tryz.prog st 32 [ptr rb, vI k, sv t] d K :=
 obj_call (id := id) (o := ringO rb B R) b32 hl (fun r o' => r = .s (.agg [.i (sgT R k t).1, .s (sgT R k t).2.1, .i (sgT R k t).2.2]) ∧ ∃ B', o' = ringO rb B' (signL R k t))
  (fun w hw => by
   obtain ⟨hB8, v, m, hat, hsub⟩ := ringO_at (hw.objs _ (look_mem hl))
   refine (sign_c rb v m R k t hk hRl w hat).mono ?_
   rintro e w' ⟨v', he, hat', hf, hnew⟩
   have hn : ∀ x ∈ partsR rb v' m, x ∈ B ∨ w.heap.size ≤ x := by
    intro x hx
    rcases List.mem_cons.1 hx with rfl | hx
    ·exact .inl (hsub _ (by simp [partsR]))
    ·rcases List.mem_append.1 hx with hx | hx
     ·exact (hnew x hx).imp (fun hx => hsub _ (by simp [partsR, hx])) _root_.id
     ·exact .inl (hsub _ (by rw [List.mem_singleton.1 hx]; simp [partsR]))
   refine ⟨.s (.agg [.i (sgT R k t).1, .s (sgT R k t).2.1, .i (sgT R k t).2.2]), ringO rb (partsR rb v' m) (signL R k t), ?_, ⟨rfl, _, rfl⟩, ringO_of hat' fun x hx => (hn x hx).elim (hB8 x) (fun h => Nat.le_trans (h8 w hw) h), hf.mono fun b hb => .inl (mem_nub.2 (hsub b hb)), fun b hb => (hn b (mem_nub.1 hb)).imp mem_nub.2 _root_.id⟩
   rw [he, signV_eq]; rfl)
  (fun r o' ⟨hr, B', ho⟩ => by
   subst hr; subst ho
   exact ⟨⟨fun b T cells e => (by unfold ringO at e; cases e), trivial, fun c hc => by simp only [List.mem_cons, List.not_mem_nil, or_false] at hc; rcases hc with rfl | rfl | rfl <;> trivial⟩, hK B'⟩)
def seqW (N : List Nd) (a : Int) (q : Int) (l : List Int) : Int := l.foldl (fun q x => if (entB N x).author = a then q + 1 else q) q
def entW (N : List Nd) (e : En) : En := { e with seq := seqW N e.author e.seq (marksB N), knows := headsB N }
def writeT (N : List Nd) (e : En) : List UInt8 := entryS (entW N e)
def writeR (R : List SK) (N : List Nd) (e : En) : List SK := signL R e.author (writeT N e)
def writeA (R : List SK) (N : List Nd) (e : En) : List Nd × Int := addB (writeR R N e) N (sgT R e.author (writeT N e)).1 (sgT R e.author (writeT N e)).2.1 (sgT R e.author (writeT N e)).2.2
def writeM (R : List SK) (N : List Nd) (e : En) : Int := if (writeA R N e).2 = 0 then (sgT R e.author (writeT N e)).2.2 else -1
theorem seqW_bd (N : List Nd) (a : Int) : ∀ (l : List Int) (q : Int), q ≤ seqW N a q l ∧ seqW N a q l ≤ q + l.length
 | [], q => ⟨Int.le_refl _, by simp [seqW]⟩
 | x :: r, q => by
  obtain ⟨h1, h2⟩ := seqW_bd N a r (if (entB N x).author = a then q + 1 else q)
  have e : seqW N a q (x :: r) = seqW N a (if (entB N x).author = a then q + 1 else q) r := rfl
  rw [e]
  simp only [List.length_cons]
  split at h1 <;> rename_i hq <;> simp only [hq, if_true, if_false] at h1 h2 ⊢ <;> omega
theorem headsB_mem {N : List Nd} {x : Int} (h : x ∈ headsB N) : ∃ n ∈ N, n.mark = x := by
 unfold headsB at h; rw [sortI_mem] at h
 obtain ⟨p, hp, e⟩ := List.mem_map.1 h
 exact ⟨p.1, List.fst_mem_of_mem_zipIdx (List.mem_filter.1 hp).1, e⟩
theorem entW_R {N : List Nd} (hN : NOk N) {e : En} (hE : EnR e) (hq : 0 ≤ e.seq ∧ e.seq ≤ 1000000) : EnR (entW N e) := by
  have hNl := hN.len
  obtain ⟨h1, h2⟩ := seqW_bd N e.author (marksB N) e.seq
  rw [marksB_len] at h2
  exact { author := hE.author, seq := ⟨by show _ ≤ seqW _ _ _ _; omega, by show seqW _ _ _ _ ≤ _; omega⟩, day := hE.day, kind := hE.kind, circle := hE.circle, who := hE.who, n := hE.n, m := hE.m, ref := hE.ref,
          knows := fun x hx => by
            obtain ⟨n, hn, rfl⟩ := headsB_mem hx
            obtain ⟨i, hi, rfl⟩ := List.getElem_of_mem hn
            exact (hN.nd i _ (List.getElem?_eq_getElem hi)).2.2.2.2.2.2.2
          keys := hE.keys, spans := hE.spans, lk := by show (headsB N).length ≤ _; have := headsB_len N; omega, ly := hE.ly, ls := hE.ls, lt := hE.lt }
theorem write_c (h rb : Nat) (B : List Nat) (N : List Nd) (hN : NOk N) (R : List SK) (BR : List Nat) (e : En) (k y s : Value) (w : World) (hRl : R.length ≤ 1000000) (hG : Gl w) (HH : (histO h rb B N).holds w) (HRg : (ringO rb BR R).holds w) (hd : ∀ b ∈ B, b ∉ BR)
  (he : EnIn (nub BR ++ nub B) w e k y s) (hER : EnR e) (hq0 : 0 ≤ e.seq ∧ e.seq ≤ 1000000) (ht : (writeT N e).length ≤ 900000) :
  Calls Tryz.prog 20 #[ptr h, vE e k y s] w (fun x w' => ∃ BR' B', x = .returned (vI (writeM R N e)) ∧ (ringO rb BR' (writeR R N e)).holds w' ∧ (histO h rb B' (writeA R N e).1).holds w' ∧ Fr (nub BR ++ nub B) w w' ∧ (∀ b ∈ nub BR', b ∈ nub BR ++ nub B ∨ w.heap.size ≤ b) ∧ (∀ b ∈ nub B', b ∈ nub BR ++ nub B ∨ w.heap.size ≤ b) ∧ ∀ b ∈ nub BR', b ∉ nub B') := by
 have hNl := hN.len
 have hml := marksB_len N
 have hhl := headsB_len N
 have h8 : ∀ b ∈ nub BR ++ nub B, 8 ≤ b := fun b hb => (List.mem_append.1 hb).elim (fun hb => (ringO_at HRg).1 b (mem_nub.1 hb)) (fun hb => (histO_at HH).1 b (mem_nub.1 hb))
 have hG' : ∀ w', Fr (nub BR ++ nub B) w w' → Gl w' := fun w' hf => hG.fr hf h8
 have hS : ([(0, ringO rb BR R), (1, histO h rb B N)].flatMap fun o => o.2.blks) = nub BR ++ nub B := by simp [histO, ringO, LO.blks]
 have hen := enter_objs (N := Tryz.f20.ntmps) (l := [.x (ptr h), .s (.agg (encE e k y s))]) (hp := [(0, ringO rb BR R), (1, histO h rb B N)]) (w := w) (fun o ho => by
  simp only [List.mem_cons, List.not_mem_nil, or_false] at ho
  rcases ho with rfl | rfl
  ·exact HRg
  ·exact HH) (by rw [hS]; exact List.nodup_append.2 ⟨nub_nodup _, nub_nodup _, fun x hx z hz e => hd z (mem_nub.1 hz) (e ▸ mem_nub.1 hx)⟩)
 rw [hS] at hen
 refine calls_atB [.x (ptr h), .s (.agg (encE e k y s))] [(0, ringO rb BR R), (1, histO h rb B N)] (nub BR ++ nub B) Tryz.func20 rfl rfl (Nat.le_of_ble_eq_true rfl) (WF.objs hen trivial trivial) hen fun B0 hB => ?_
 repeat refine zq ?_
 refine zr ?_; conv => whnf
 refine ⟨he.k.one, ?_⟩; conv => whnf
 refine ⟨he.y.one, ?_⟩; conv => whnf
 refine ⟨he.s.one, ?_⟩; conv => whnf
 intro b3; conv => whnf
 repeat refine zq ?_
 refine zr ?_; conv => whnf
 refine ansR_call b12 (rd1 (nopI _)) (fun w' hw => marks_r h rb N hN w' (histO_hr (hw.objs _ (look_mem (s := 1) rfl)) hN (fun b hb => by cases hb))) ?_
 intro vm; conv => whnf
 repeat refine zq ?_
 refine zr ?_; conv => whnf
 repeat refine zq ?_
 refine At.block ?_
 refine At.loopH (fun j : Nat => { N := Tryz.f20.ntmps, sl := [(0, some (.x ((ptr h)))), (3, some (.s (.c (.p 2 b3 0)))), (5, some (.s (.c (.o 3 vm)))), (6, some (.i j))], gl := [], hp := [(3, .row vm 3 1 ((marksB N).map encI)), (2, .box b3 38 [.i e.author, .i (seqW N e.author e.seq ((marksB N).take j)), .i e.day, .x k, .i e.kind, .i e.circle, .i e.who, .i e.n, .i e.m, .i e.ref, .x y, .x s, .s e.text]), (0, ringO rb BR R), (1, histO h rb B N)], S := (nub BR ++ nub B), ws := w }) (fun j : Nat => j ≤ (marksB N).length) (fun j : Nat => (marksB N).length - j)
  (fun w' hw => ⟨0, Nat.zero_le _, Le.of rfl rfl ⟨rfl, rfl, rfl, rfl, trivial⟩, hw.keep [3, 2, 0, 1] rfl rfl rfl, ⟨⟨_, _, rfl⟩, ⟨_, _, _, rfl⟩, trivial⟩, ⟨(nopI _).okH, trivial⟩⟩) ?_
 intro j hj
 repeat refine zq ?_
 refine zr ?_; conv => whnf
 refine ⟨rfl, ?_⟩; conv => whnf
 repeat refine zq ?_
 refine At.cond rfl (fun hc => At.skip ?_) (fun hc => At.exit ?_)
 ·have hlt : j < (marksB N).length := by have := of_decide_eq_true hc; simp only [List.length_map] at this; omega
  obtain ⟨x, hx⟩ : ∃ x, (marksB N)[j]? = some x := ⟨_, List.getElem?_eq_getElem hlt⟩
  obtain ⟨hs1, hs2⟩ := seqW_bd N e.author ((marksB N).take j) e.seq
  rw [List.length_take] at hs2
  have hsn : seqW N e.author e.seq ((marksB N).take (j + 1)) = if (entB N x).author = e.author then seqW N e.author e.seq ((marksB N).take j) + 1 else seqW N e.author e.seq ((marksB N).take j) := by
   rw [take_snoc hx]; unfold seqW; rw [List.foldl_append]; rfl
  generalize seqW N e.author e.seq ((marksB N).take j) = sq at hs1 hs2 hsn ⊢
  repeat refine zq ?_
  refine At.block ?_
  repeat refine zq ?_
  refine zr ?_; conv => whnf
  refine ⟨rfl, ?_⟩; conv => whnf
  refine ⟨by omega, ?_⟩; conv => whnf
  refine ⟨by (try simp only [List.length_map]); omega, ?_⟩; conv => whnf
  refine ⟨encI x, ⟨rfl, rfl, by omega, by rw [Int.toNat_natCast, List.getElem?_map, hx]; rfl⟩, ?_⟩; conv => whnf
  refine entry_call (h := h) (rb := rb) (N := N) (mk := x) hN (fun w' hw => histO_hr (hw.objs _ (look_mem (s := 1) rfl)) hN (fun b hb => by cases hb)) ?_
  intro k4 y5 s6; conv => whnf
  intro b7; conv => whnf
  repeat refine zq ?_
  refine zr ?_; conv => whnf
  repeat refine zq ?_
  refine At.cond rfl (fun hq => ?_) (fun hq => At.skip ?_)
  ·have hqa : (entB N x).author = e.author := of_decide_eq_true hq
   rw [if_pos hqa] at hsn
   repeat refine zq ?_
   refine zr ?_; conv => whnf
   refine ⟨⟨by omega, by omega⟩, ?_⟩; conv => whnf
   repeat refine zq ?_
   refine zr ?_; conv => whnf
   refine ⟨⟨by omega, by omega⟩, ?_⟩; conv => whnf
   refine At.nextH fun w' hw => ⟨j + 1, by omega, by omega, Le.of rfl rfl ⟨rfl, rfl, rfl, rfl, trivial⟩, hw.keep [3, 2, 0, 1] (by simp only [hsn]; rfl) rfl rfl, ⟨⟨_, _, rfl⟩, ⟨_, _, _, rfl⟩, trivial⟩, ⟨(nopI _).okH, trivial⟩⟩
  ·have hqa : ¬ (entB N x).author = e.author := of_decide_eq_false hq
   rw [if_neg hqa] at hsn
   repeat refine zq ?_
   refine zr ?_; conv => whnf
   refine ⟨⟨by omega, by omega⟩, ?_⟩; conv => whnf
   refine At.nextH fun w' hw => ⟨j + 1, by omega, by omega, Le.of rfl rfl ⟨rfl, rfl, rfl, rfl, trivial⟩, hw.keep [3, 2, 0, 1] (by simp only [hsn]; rfl) rfl rfl, ⟨⟨_, _, rfl⟩, ⟨_, _, _, rfl⟩, trivial⟩, ⟨(nopI _).okH, trivial⟩⟩
 ·have hge : j = (marksB N).length := by have := of_decide_eq_false hc; simp only [List.length_map] at this; omega
  subst hge
  rw [List.take_length]
  have hWR := entW_R hN hER hq0
  repeat refine zq ?_
  refine zr ?_; conv => whnf
  refine ansR_call b44 (rd1 (nopI _)) (fun w' hw => heads_r h rb N hN w' (histO_hr (hw.objs _ (look_mem (s := 1) rfl)) hN (fun b hb => by cases hb))) ?_
  intro vh; conv => whnf
  have hok : okSK (e.author, writeT N e) := ⟨hER.author, by show (writeT N e).length ≤ _; omega⟩
  have hok2 : okSK ((sgT R e.author (writeT N e)).1, (sgT R e.author (writeT N e)).2.1) ∧ (sgT R e.author (writeT N e)).2.1.length ≤ 900000 := by
   unfold sgT
   split
   ·exact ⟨hok, ht⟩
   ·exact ⟨⟨by simp [iR], by simp⟩, by simp⟩
  repeat refine zq ?_
  refine At.join (fun p' : Nat × List Nat => { N := Tryz.f20.ntmps, sl := [(0, some (.x ((ptr h)))), (9, some (.s (.c (.p 5 p'.1 0))))], gl := [], hp := [(5, .box p'.1 67 [.i (sgT R e.author (writeT N e)).1, .s (sgT R e.author (writeT N e)).2.1, .i (sgT R e.author (writeT N e)).2.2]), (0, ringO rb p'.2 (writeR R N e)), (1, histO h rb B N)], S := (nub BR ++ nub B), ws := w }) (fun p' : Nat × List Nat => True) ?_ ?_
  ·repeat refine zq ?_
   refine At.planG tab_ok mixed [(2, LO.box b3 38 [.i e.author, .i (seqW N e.author e.seq (marksB N)), .i e.day, .o 4 vh, .i e.kind, .i e.circle, .i e.who, .i e.n, .i e.m, .i e.ref, .x y, .x s, .s e.text])] (.take 0 (.take 2 (.take 3 (.take 4 (.br 1 (.br 5 (.br 6 (.br 7 (.br 8 (.done) (.nob)) (.nob)) (.br 7 (.br 6 (.br 8 (.done) (.nob)) (.nob)) (.nob))) (.br 7 (.br 5 (.br 6 (.br 8 (.done) (.nob)) (.nob)) (.nob)) (.nob))) (.br 7 (.br 1 (.br 5 (.br 6 (.br 8 (.done) (.nob)) (.nob)) (.nob)) (.nob)) (.nob))))))) (by kernel_rfl) (by kernel_rfl) ⟨rfl, trivial⟩ ?_; conv => whnf
   refine ⟨?_, ?_, trivial⟩
   ·conv => whnf
    refine ans_call (r := .x (ptr rb)) b45 rfl (fun w' hw => hring_r h rb N w' (histO_hr (hw.objs _ (look_mem (s := 1) rfl)) hN (fun b hb => by cases hb))) ?_; conv => whnf
    refine ⟨⟨⟨rfl, trivial⟩, fun w' hw => hw.fr⟩, ?_⟩; conv => whnf
    refine ⟨?_, ?_, trivial⟩
    ·conv => whnf
     refine ans_call (r := rS (writeT N e)) b46 rfl (fun w' hw => etext_c (entW N e) vh y s [] w' ⟨slI _ (hw.row (id := 4) rfl) (by show (headsB N).length ≤ _; omega), (he.y.fr hw.fr).avoid (fun b hb => by cases hb), (he.s.fr hw.fr).avoid (fun b hb => by cases hb)⟩ hWR (hG' w' hw.fr)) ?_; conv => whnf
     refine ⟨⟨⟨rfl, trivial⟩, fun w' hw => hw.fr⟩, ?_⟩; conv => whnf
     refine ⟨?_, ?_, trivial⟩
     ·conv => whnf
      refine sign_call (id := 0) (rb := rb) (B := BR) (R := R) (k := e.author) (t := writeT N e) rfl hok hRl (fun w' hw => (hG' w' hw.fr).size) ?_
      intro BR2; conv => whnf
      refine ⟨⟨⟨rfl, trivial⟩, fun w' hw => hw.fr⟩, ?_⟩; conv => whnf
      refine ⟨?_, trivial⟩; conv => whnf
      intro b9; conv => whnf
      refine ⟨⟨⟨rfl, trivial⟩, fun w' hw => hw.fr⟩, ?_⟩; conv => whnf
      refine ⟨?_, trivial⟩; conv => whnf
      refine ⟨⟨⟨rfl, trivial⟩, fun w' hw => hw.fr⟩, ?_⟩; conv => whnf
      refine At.meet fun w' hw => ⟨(b9, BR2), trivial, Le.of rfl rfl ⟨rfl, rfl, trivial⟩, hw.keep [5, 0, 1] rfl rfl rfl, ⟨⟨_, _, rfl⟩, trivial⟩, trivial⟩
     ·conv => whnf
      intro b9; conv => whnf
      refine ⟨⟨⟨rfl, trivial⟩, fun w' hw => hw.fr⟩, ?_⟩; conv => whnf
      refine ⟨?_, trivial⟩; conv => whnf
      refine sign_call (id := 0) (rb := rb) (B := BR) (R := R) (k := e.author) (t := writeT N e) rfl hok hRl (fun w' hw => (hG' w' hw.fr).size) ?_
      intro BR2; conv => whnf
      refine ⟨⟨⟨rfl, trivial⟩, fun w' hw => hw.fr⟩, ?_⟩; conv => whnf
      refine ⟨?_, trivial⟩; conv => whnf
      refine ⟨⟨⟨rfl, trivial⟩, fun w' hw => hw.fr⟩, ?_⟩; conv => whnf
      refine At.meet fun w' hw => ⟨(b9, BR2), trivial, Le.of rfl rfl ⟨rfl, rfl, trivial⟩, hw.keep [5, 0, 1] rfl rfl rfl, ⟨⟨_, _, rfl⟩, trivial⟩, trivial⟩
    ·conv => whnf
     intro b9; conv => whnf
     refine ⟨⟨⟨rfl, trivial⟩, fun w' hw => hw.fr⟩, ?_⟩; conv => whnf
     refine ⟨?_, trivial⟩; conv => whnf
     refine ans_call (r := rS (writeT N e)) b46 rfl (fun w' hw => etext_c (entW N e) vh y s [] w' ⟨slI _ (hw.row (id := 4) rfl) (by show (headsB N).length ≤ _; omega), (he.y.fr hw.fr).avoid (fun b hb => by cases hb), (he.s.fr hw.fr).avoid (fun b hb => by cases hb)⟩ hWR (hG' w' hw.fr)) ?_; conv => whnf
     refine ⟨⟨⟨rfl, trivial⟩, fun w' hw => hw.fr⟩, ?_⟩; conv => whnf
     refine ⟨?_, trivial⟩; conv => whnf
     refine sign_call (id := 0) (rb := rb) (B := BR) (R := R) (k := e.author) (t := writeT N e) rfl hok hRl (fun w' hw => (hG' w' hw.fr).size) ?_
     intro BR2; conv => whnf
     refine ⟨⟨⟨rfl, trivial⟩, fun w' hw => hw.fr⟩, ?_⟩; conv => whnf
     refine ⟨?_, trivial⟩; conv => whnf
     refine ⟨⟨⟨rfl, trivial⟩, fun w' hw => hw.fr⟩, ?_⟩; conv => whnf
     refine At.meet fun w' hw => ⟨(b9, BR2), trivial, Le.of rfl rfl ⟨rfl, rfl, trivial⟩, hw.keep [5, 0, 1] rfl rfl rfl, ⟨⟨_, _, rfl⟩, trivial⟩, trivial⟩
   ·conv => whnf
    intro b9; conv => whnf
    refine ⟨⟨⟨rfl, trivial⟩, fun w' hw => hw.fr⟩, ?_⟩; conv => whnf
    refine ⟨?_, trivial⟩; conv => whnf
    refine ans_call (r := .x (ptr rb)) b45 rfl (fun w' hw => hring_r h rb N w' (histO_hr (hw.objs _ (look_mem (s := 1) rfl)) hN (fun b hb => by cases hb))) ?_; conv => whnf
    refine ⟨⟨⟨rfl, trivial⟩, fun w' hw => hw.fr⟩, ?_⟩; conv => whnf
    refine ⟨?_, trivial⟩; conv => whnf
    refine ans_call (r := rS (writeT N e)) b46 rfl (fun w' hw => etext_c (entW N e) vh y s [] w' ⟨slI _ (hw.row (id := 4) rfl) (by show (headsB N).length ≤ _; omega), (he.y.fr hw.fr).avoid (fun b hb => by cases hb), (he.s.fr hw.fr).avoid (fun b hb => by cases hb)⟩ hWR (hG' w' hw.fr)) ?_; conv => whnf
    refine ⟨⟨⟨rfl, trivial⟩, fun w' hw => hw.fr⟩, ?_⟩; conv => whnf
    refine ⟨?_, trivial⟩; conv => whnf
    refine sign_call (id := 0) (rb := rb) (B := BR) (R := R) (k := e.author) (t := writeT N e) rfl hok hRl (fun w' hw => (hG' w' hw.fr).size) ?_
    intro BR2; conv => whnf
    refine ⟨⟨⟨rfl, trivial⟩, fun w' hw => hw.fr⟩, ?_⟩; conv => whnf
    refine ⟨?_, trivial⟩; conv => whnf
    refine ⟨⟨⟨rfl, trivial⟩, fun w' hw => hw.fr⟩, ?_⟩; conv => whnf
    refine At.meet fun w' hw => ⟨(b9, BR2), trivial, Le.of rfl rfl ⟨rfl, rfl, trivial⟩, hw.keep [5, 0, 1] rfl rfl rfl, ⟨⟨_, _, rfl⟩, trivial⟩, trivial⟩
  rintro ⟨b9, BR2⟩ _
  simp only
  repeat refine zq ?_
  refine zr ?_; conv => whnf
  refine add_call (id := 1) (h := h) (rb := rb) (B := B) (N := N) (R := writeR R N e) (k := (sgT R e.author (writeT N e)).1) (mk := (sgT R e.author (writeT N e)).2.2) (t := (sgT R e.author (writeT N e)).2.1) rfl hN hok2.1 hok2.2 (fun w' hw => hG' w' hw.fr) (fun w' hw => ringO_rr (hw.objs _ (look_mem (s := 0) rfl)) (fun b hb hm => hw.apart (i := 1) (j := 0) rfl rfl (by decide) b (mem_nub.2 hb) (mem_nub.2 hm))) ?_
  intro B4; conv => whnf
  repeat refine zq ?_
  refine At.cond rfl (fun hq => ?_) (fun hq => At.skip ?_)
  ·have hne : (writeA R N e).2 ≠ 0 := by simpa [writeA] using hq
   repeat refine zq ?_
   refine zr ?_; conv => whnf
   repeat refine zq ?_
   refine At.ret (At.doneB tab_ok hB _ rfl fun w' hw => ?_)
   refine ⟨BR2, B4, ?_, hw.objs _ (look_mem (s := 0) rfl), hw.objs _ (look_mem (s := 1) rfl), hw.fr, fun b hb => hw.fresh (id := 0) rfl b hb, fun b hb => hw.fresh (id := 1) rfl b hb, hw.apart (i := 0) (j := 1) rfl rfl (by decide)⟩
   ·unfold writeM; rw [if_neg hne]; rfl
  ·have hne : (writeA R N e).2 = 0 := by simpa [writeA] using hq
   repeat refine zq ?_
   refine zr ?_; conv => whnf
   repeat refine zq ?_
   refine At.ret (At.doneB tab_ok hB _ rfl fun w' hw => ?_)
   refine ⟨BR2, B4, ?_, hw.objs _ (look_mem (s := 0) rfl), hw.objs _ (look_mem (s := 1) rfl), hw.fr, fun b hb => hw.fresh (id := 0) rfl b hb, fun b hb => hw.fresh (id := 1) rfl b hb, hw.apart (i := 0) (j := 1) rfl rfl (by decide)⟩
   ·unfold writeM; rw [if_pos hne]; rfl
end Go.Proofs.YtlobacpdhglnkaaGreatDoor
namespace Go.Proofs.YtlobacpdhglnkaaGreatDoor
open Go.Vc Rt Go.Bs
theorem keep_storeI {xs F : List Int} {x : Int} (hF : F.length < xs.length) : ((F ++ xs.drop F.length).map encI).set F.length (encI x) = ((F ++ [x]) ++ xs.drop (F ++ [x]).length).map encI := by
 rw [List.drop_eq_getElem_cons hF, List.map_append, List.map_cons, List.set_append_right _ _ (by simp)]
 simp only [List.length_map, Nat.sub_self, List.set_cons_zero, List.map_append, List.length_append, List.length_cons, List.length_nil, List.append_assoc, List.map_cons, List.map_nil, List.cons_append, List.nil_append, Nat.zero_add]
theorem filter_takeI {p : Int → Bool} {xs : List Int} {j : Nat} {x : Int} (hx : xs[j]? = some x) : (xs.take (j + 1)).filter p = (xs.take j).filter p ++ (if p x then [x] else []) := by
 rw [List.take_add_one, hx, List.filter_append]
 simp [List.filter_cons]
theorem deleteI_c (xs : List Int) (v : Value) (w : World) (h : (LO.row v 3 1 (xs.map encI)).holds w) (hN : xs.length ≤ 1000000) (g : Nat) (caps : Array Value) (p : Int → Bool) (hg : Body Tryz.prog g)
  (hf : ∀ x ∈ xs, ∀ w', Fr (blkOf v) w w' → Ans Tryz.prog g (vI x :: caps.toList) (.b (p x)) w') : RowC 80 [v, .func (.func g) #[] caps] 3 1 v ((xs.filter (fun x => !p x)).map encI) w := by
 refine calls_atB [.s (.c (.o 0 v)), .x (.func (.func g) #[] caps)] [(0, .row v 3 1 (xs.map encI))] (blkOf v) Tryz.func80 rfl rfl (Nat.le_of_ble_eq_true rfl) (WF.objs (enter_row h) ⟨⟨_, _, _, rfl⟩, trivial⟩ ⟨(nopI xs).okH, trivial⟩) (enter_row h) fun B hB => ?_
 repeat refine zq ?_
 refine zr ?_; conv => whnf
 repeat refine zq ?_
 refine zr ?_; conv => whnf
 refine ans_call b107 rfl (fun w' hw => indexF_c xs [] v w' (SlOf.of_row (enc := fun n => [.i n]) (hw.row (id := 0) rfl) (fun b hb hb' => by cases hb') (by omega)) g caps p hg (fun x hx w'' hx' => hf x hx w'' (hw.fr.trans (hx'.fr _)))) ?_; conv => whnf
 repeat refine zq ?_
 refine zr ?_; conv => whnf
 repeat refine zq ?_
 refine At.cond rfl (fun hq => ?_) (fun hq => ?_)
 ·have hn : xs.findIdx? p = none := by
   have := of_decide_eq_true hq
   unfold idxOf at this
   split at this
   ·omega
   ·rename_i e; exact e
  repeat refine zq ?_
  refine zr ?_; conv => whnf
  repeat refine zq ?_
  refine At.ret (At.doneB tab_ok hB _ rfl fun w' hw => ⟨_, rfl, by rw [part_none hn]; exact hw.row (id := 0) rfl, hw.fr, fun b hb => hb⟩)
 ·obtain ⟨k0, hk0⟩ : ∃ k, xs.findIdx? p = some k := by
   have := of_decide_eq_false hq
   unfold idxOf at this
   split at this
   ·rename_i i e; exact ⟨i, e⟩
   ·exact absurd rfl this
  have hi0 : idxOf p xs = k0 := by unfold idxOf; rw [hk0]
  obtain ⟨hF0, hk0l⟩ := part_some hk0
  refine At.skip ?_
  repeat refine zq ?_
  refine zr ?_; conv => whnf
  refine ⟨by rw [hi0]; exact ⟨by omega, by omega⟩, ?_⟩; conv => whnf
  repeat refine zq ?_
  refine At.block ?_
  refine At.loopH (fun j : Nat => { N := Tryz.f80.ntmps, sl := [(0, some (.s (.c (.o 0 v)))), (1, some (.x (.func (.func g) #[] caps))), (5, some (.i ((xs.take j).filter (fun x => !p x)).length)), (6, some (.i j))], gl := [], hp := [(0, .row v 3 1 (((xs.take j).filter (fun x => !p x) ++ xs.drop ((xs.take j).filter (fun x => !p x)).length).map encI))], S := blkOf v, ws := w }) (fun j => j ≤ xs.length ∧ ((xs.take j).filter (fun x => !p x)).length < j) (fun j => xs.length - j)
   (fun w' hw => ⟨k0 + 1, ⟨by omega, by rw [hF0]; simp; omega⟩, Le.of rfl rfl ⟨rfl, rfl, congrArg (Value.int .i64) (by rw [hi0, hF0]; simp; omega), congrArg (Value.int .i64) (by rw [hi0]; rfl), trivial⟩, ?_, ⟨⟨_, _, _, rfl⟩, trivial⟩, ⟨(nopI _).okH, trivial⟩⟩) ?_
  ·refine hw.same ?_ rfl rfl
   show [(0, LO.row v 3 1 _)] = [(0, LO.row v 3 1 _)]
   rw [hF0, show (xs.take k0).length = k0 by simp; omega, List.take_append_drop]
  intro j ⟨hj, hFl⟩
  generalize hFd : (xs.take j).filter (fun x => !p x) = F at hFl
  have hFx : F.length < xs.length := by omega
  repeat refine zq ?_
  refine zr ?_; conv => whnf
  refine ⟨rfl, ?_⟩; conv => whnf
  repeat refine zq ?_
  refine At.cond rfl (fun hc => At.skip ?_) (fun hc => At.exit ?_)
  ·have hlt : j < xs.length := by have := of_decide_eq_true hc; simp at this; omega
   obtain ⟨x, hx⟩ : ∃ x, xs[j]? = some x := ⟨_, List.getElem?_eq_getElem hlt⟩
   have hrow : ((F ++ xs.drop F.length).map encI)[j]? = some (encI x) := by
    rw [List.getElem?_map, List.getElem?_append_right (by omega), List.getElem?_drop, show F.length + (j - F.length) = j by omega, hx]; rfl
   have hrow' : ((F ++ xs.drop F.length).map encI)[F.length]? = some (encI xs[F.length]) := by
    rw [List.getElem?_map, List.getElem?_append_right (by omega), List.getElem?_drop, List.getElem?_eq_getElem (by omega)]; simp
   repeat refine zq ?_
   refine At.block ?_
   repeat refine zq ?_
   refine zr ?_; conv => whnf
   refine ⟨rfl, ?_⟩; conv => whnf
   refine ⟨by omega, ?_⟩; conv => whnf
   refine ⟨by simp; omega, ?_⟩; conv => whnf
   refine ⟨encI x, ⟨rfl, rfl, by omega, hrow⟩, ?_⟩; conv => whnf
   repeat refine zq ?_
   refine zr ?_; conv => whnf
   refine ans_call hg rfl (fun w' hw => hf x (List.mem_of_getElem? hx) w' hw.fr) ?_; conv => whnf
   repeat refine zq ?_
   refine At.cond rfl (fun hq => ?_) (fun hq => ?_)
   ·repeat refine zq ?_
    refine zr ?_; conv => whnf
    refine ⟨rfl, ?_⟩; conv => whnf
    refine ⟨by omega, ?_⟩; conv => whnf
    refine ⟨by simp; omega, ?_⟩; conv => whnf
    refine ⟨_, ⟨rfl, rfl, by omega, hrow'⟩, ?_⟩; conv => whnf
    repeat refine zq ?_
    refine zr ?_; conv => whnf
    refine ⟨⟨by omega, by omega⟩, ?_⟩; conv => whnf
    repeat refine zq ?_
    refine zr ?_; conv => whnf
    refine ⟨⟨by omega, by omega⟩, ?_⟩; conv => whnf
    have hnx : (xs.take (j + 1)).filter (fun x => !p x) = F ++ [x] := by rw [filter_takeI hx, hFd, if_pos hq]
    refine At.nextH fun w' hw => ⟨j + 1, ⟨by omega, by rw [hnx]; simp; omega⟩, by omega, Le.of rfl rfl ⟨rfl, rfl, congrArg (Value.int .i64) (by rw [hnx]; simp), rfl, trivial⟩, hw.keep [0] ?_ rfl rfl, ⟨⟨_, _, _, rfl⟩, trivial⟩, ⟨(nopI _).okH, trivial⟩⟩
    show [(0, LO.row v 3 1 _)] = [(0, LO.row v 3 1 _)]
    rw [hnx]
    congr 3
    exact (keep_storeI hFx).symm
   ·refine At.skip ?_
    repeat refine zq ?_
    refine zr ?_; conv => whnf
    refine ⟨⟨by omega, by omega⟩, ?_⟩; conv => whnf
    have hnx : (xs.take (j + 1)).filter (fun x => !p x) = F := by rw [filter_takeI hx, hFd]; simp [hq]
    refine At.nextH fun w' hw => ⟨j + 1, ⟨by omega, by rw [hnx]; omega⟩, by omega, Le.of rfl rfl ⟨rfl, rfl, congrArg (Value.int .i64) (by rw [hnx]), rfl, trivial⟩, hw.keep [0] ?_ rfl rfl, ⟨⟨_, _, _, rfl⟩, trivial⟩, ⟨(nopI _).okH, trivial⟩⟩
    show [(0, LO.row v 3 1 _)] = [(0, LO.row v 3 1 _)]
    rw [hnx]
  ·have hge : j = xs.length := by have := of_decide_eq_false hc; simp at this; omega
   subst hge
   have hFe : xs.filter (fun x => !p x) = F := by rw [← hFd, List.take_length]
   have hll : ((F ++ xs.drop F.length).map encI).length = xs.length := by simp; omega
   repeat refine zq ?_
   refine zr ?_; conv => whnf
   refine ⟨rfl, ?_⟩; conv => whnf
   refine ⟨by omega, ?_⟩; conv => whnf
   refine ⟨by omega, ?_⟩; conv => whnf
   refine ⟨Or.inl (by omega), ?_⟩; conv => whnf
   refine ⟨0, F.length, ?_⟩; conv => whnf
   refine ⟨⟨by rw [hll], by rw [hll]; omega⟩, ?_⟩; conv => whnf
   repeat refine zq ?_
   refine zr ?_; conv => whnf
   refine ⟨rfl, ?_⟩; conv => whnf
   refine ⟨by omega, ?_⟩; conv => whnf
   refine ⟨by omega, ?_⟩; conv => whnf
   refine ⟨Or.inl (by rw [spliceR_length (by simp <;> omega), hll]; omega), ?_⟩; conv => whnf
   repeat refine zq ?_
   refine At.ret (At.doneB tab_ok hB _ rfl fun w' hw => ⟨_, rfl, ?_, hw.fr, blkOf_sub⟩)
   have hr := row_prefix (hw.row (id := 0) rfl) (n := F.length) (by rw [spliceR_length (by simp <;> omega), hll]; omega)
   rw [splice_all (by rw [hll]; omega) _ (by simp)] at hr
   rw [hFe]
   have e : ((F ++ xs.drop F.length).map encI).take F.length = F.map encI := by rw [← List.map_take]; simp
   rw [e] at hr
   exact hr
def apartB (N : List Nd) (a b : Int) : Bool := (decide (a ≠ b) && !beforeB N a b) && !beforeB N b a
theorem apart_r (h rb : Nat) (N : List Nd) (hN : NOk N) (a b : Int) (w : World) (H : HR [] w h rb N) : Ans Tryz.prog 35 [ptr h, vI a, vI b] (.b (apartB N a b)) w := by
 refine calls_e [.x (ptr h), .i a, .i b] Tryz.func35 rfl rfl (Nat.le_of_ble_eq_true rfl) trivial fun B hB => ?_
 repeat refine zq ?_
 refine zr ?_; conv => whnf
 repeat refine zq ?_
 refine zr ?_; conv => whnf
 refine ⟨.b (beforeB N a b), gimp_of (ans_quiet b42 (fun w' hw => before_r h rb N hN a b w' (H.ext hw.fr))), ?_⟩; conv => whnf
 refine ⟨.b (beforeB N b a), gimp_of (ans_quiet b42 (fun w' hw => before_r h rb N hN b a w' (H.ext hw.fr))), ?_⟩; conv => whnf
 repeat refine zq ?_
 refine At.ret (At.doneB tab_ok hB _ rfl fun w' hw => ⟨?_, hw.fr⟩)
 simp only [RV.den, SV.den, CV.den, band, apartB, decide_not]
theorem spans_r (h rb : Nat) (N : List Nd) (hN : NOk N) (mk : Int) (w : World) (H : HR [] w h rb N) : AnsR Tryz.prog 36 [ptr h, vI mk] [.row 50 3 ((entB N mk).spans.map encS)] w := by
 refine calls_e [.x (ptr h), .i mk] Tryz.func36 rfl rfl (Nat.le_of_ble_eq_true rfl) trivial fun B hB => ?_
 repeat refine zq ?_
 refine zr ?_; conv => whnf
 repeat refine zq ?_
 refine zr ?_; conv => whnf
 refine entry_call (h := h) (rb := rb) (N := N) (mk := mk) hN (fun w' hw => H.ext hw.fr) ?_
 intro k y s; conv => whnf
 intro b5; conv => whnf
 repeat refine zq ?_
 refine zr ?_; conv => whnf
 repeat refine zq ?_
 refine At.ret (At.doneB tab_ok hB _ rfl fun w' hw => ansR_row (id := 2) hw rfl rfl rfl)
def pT : Ty Nat := flat 1 (fun h => [.x (ptr h)]) (fun _ => rfl)
theorem box_p {w : World} {b h : Nat} {T : TypeId} {S : List Nat} (hb : w.heap[b]? = some (.cells #[ptr h] T (0, 0))) (hS : b ∉ S) : SlOf pT S w (hs b) [h] := by
 have hrow : (LO.row (hs b) T 1 ([h].map fun h => [CV.x (ptr h)])).holds w := ⟨⟨rfl, .inr ⟨b, 0, 1, _, rfl, hb, Nat.le_refl 1, by unfold maxLen; omega, by simp, rfl⟩⟩, fun l hl => by rw [List.mem_singleton.1 hl]; rfl⟩
 exact SlOf.of_row (enc := fun h => [.x (ptr h)]) hrow (fun b' hb' => by simp only [hs, blkOf, List.mem_singleton] at hb'; rw [hb']; exact hS) (by simp)
def spendsB (N : List Nd) : List Int := (marksB N).filter fun m => decide ((entB N m).kind = 7)
theorem spends1_r (b h rb : Nat) (N : List Nd) (hN : NOk N) (mk : Int) (w : World) (hb : SlOf pT [] w (hs b) [h]) (H : HR [] w h rb N) : Ans Tryz.prog 81 [vI mk, ptr b] (.b (!decide ((entB N mk).kind = 7))) w := by
 refine calls_e [.i mk, .s (.c (.e (hs b) 1 0 0))] Tryz.func81 rfl rfl (Nat.le_of_ble_eq_true rfl) ⟨⟨_, _, _, rfl⟩, trivial⟩ fun B hB => ?_
 repeat refine zq ?_
 refine zr ?_; conv => whnf
 repeat refine zq ?_
 refine zr ?_; conv => whnf
 refine ⟨[.x (ptr h)], fun w' hw => hb.load (n := 1) (i := 0) (off := 0) hw.fr rfl rfl, ?_⟩; conv => whnf
 refine entry_call (h := h) (rb := rb) (N := N) (mk := mk) hN (fun w' hw => H.ext hw.fr) ?_
 intro k y s; conv => whnf
 intro b4; conv => whnf
 repeat refine zq ?_
 refine zr ?_; conv => whnf
 repeat refine zq ?_
 refine At.ret (At.doneB tab_ok hB _ rfl fun w' hw => ⟨rfl, hw.fr⟩)
theorem spendsB_len (N : List Nd) : (spendsB N).length ≤ N.length := by rw [← marksB_len N]; exact List.length_filter_le _ _
theorem spends_r (h rb : Nat) (N : List Nd) (hN : NOk N) (w : World) (H : HR [] w h rb N) : AnsR Tryz.prog 34 [ptr h] [.row 3 1 ((spendsB N).map encI)] w := by
 have hNl := hN.len
 have hml := marksB_len N
 refine calls_e [.x (ptr h)] Tryz.func34 rfl rfl (Nat.le_of_ble_eq_true rfl) trivial fun B hB => ?_
 repeat refine zq ?_
 refine zr ?_; conv => whnf
 refine ⟨rfl, ?_⟩; conv => whnf
 intro b1; conv => whnf
 repeat refine zq ?_
 refine zr ?_; conv => whnf
 refine ansR_call b12 (rd1 (nopI _)) (fun w' hw => marks_r h rb N hN w' (H.ext hw.fr)) ?_
 intro vm; conv => whnf
 refine row_call (id := 1) b80 rfl (fun r v' L' => r = .s (.c (.o 1 v')) ∧ L' = (spendsB N).map encI) (fun w' hw => ?_) ?_
 ·have hap := hw.apart (i := 0) (j := 1) rfl rfl (by decide)
  refine (deleteI_c (marksB N) vm w' (hw.row (id := 1) rfl) (by omega) 81 #[ptr b1] (fun m => !decide ((entB N m).kind = 7)) b81 (fun x _ w'' hf => ?_)).mono ?_
  ·refine spends1_r b1 h rb N hN x w'' (box_p (T := 28) ((hf.block b1 (Array.getElem?_eq_some_iff.1 (hw.box (id := 0) rfl)).1 (hap b1 (by simp [LO.blks]))).trans (hw.box (id := 0) rfl)) nilS) ?_
   exact ((hw.liftH (H.avoid fun b hb => by cases hb)).avoid (S' := blkOf vm) (fun b hb => .inl (List.mem_flatMap.2 ⟨_, look_mem (s := 1) rfl, hb⟩))).fr hf |>.nilS
  ·rintro e w'' ⟨v', he, hh, hf, hb⟩
   refine ⟨.s (.c (.o 1 v')), v', _, he, ⟨rfl, rfl⟩, ?_, hf, fun b hb' => .inl (hb b hb')⟩
   unfold spendsB
   have e : (fun x => !(!decide ((entB N x).kind = 7))) = (fun m => decide ((entB N m).kind = 7)) := by funext x; simp
   rw [e] at hh
   exact hh
 rintro r v2 L' ⟨rfl, rfl⟩ hsl
 refine ⟨hsl, nopI _, ?_⟩; conv => whnf
 repeat refine zq ?_
 refine At.ret (At.doneB tab_ok hB _ rfl fun w' hw => ansR_row (id := 1) hw rfl rfl rfl)
end Go.Proofs.YtlobacpdhglnkaaGreatDoor
namespace Go.Proofs.YtlobacpdhglnkaaGreatDoor
open Go.Vc Rt Go.Bs
set_option maxHeartbeats 1000000
theorem box_s {w : World} {b : Nat} {T : TypeId} {S : List Nat} {x : Span} (hb : w.heap[b]? = some (.cells (dens (encS x)).toArray T (0, 0))) (hS : b ∉ S) : SlOf spT S w (hs b) [x] := by
 have hrow : (LO.row (hs b) T 3 ([x].map encS)).holds w := ⟨⟨rfl, .inr ⟨b, 0, 1, _, rfl, hb, Nat.le_refl 1, by unfold maxLen; omega, by simp [dens, encS], rfl⟩⟩, fun l hl => by rw [List.mem_singleton.1 hl]; rfl⟩
 exact SlOf.of_row hrow (fun b' hb' => by simp only [hs, blkOf, List.mem_singleton] at hb'; rw [hb']; exact hS) (by simp)
theorem ent_sz {N : List Nd} (hN : NOk N) (mk : Int) : (entB N mk).spans.length ≤ 1000000 := by
 unfold entB
 split
 ·simp [zeroE]
 ·rename_i i hi
  obtain ⟨j, n, rfl, hj, _, hnj⟩ := hidx_spec hi
  rw [hnj]
  exact (hN.nd j n hj).2.2.2.2.1.ls
theorem with1_r (b3 b5 h rb : Nat) (N : List Nd) (hN : NOk N) (c : Span) (mk : Int) (w : World) (hb3 : SlOf pT [] w (hs b3) [h]) (hb5 : SlOf spT [] w (hs b5) [c]) (H : HR [] w h rb N) : Ans Tryz.prog 109 [vI mk, ptr b3, ptr b5] (.b (!hasS (entB N mk).spans c.m c.f)) w := by
 refine calls_e [.i mk, .s (.c (.e (hs b3) 1 0 0)), .s (.c (.e (hs b5) 3 0 0))] Tryz.func109 rfl rfl (Nat.le_of_ble_eq_true rfl) ⟨⟨_, _, _, rfl⟩, ⟨_, _, _, rfl⟩, trivial⟩ fun B hB => ?_
 repeat refine zq ?_
 refine zr ?_; conv => whnf
 repeat refine zq ?_
 refine At.planG tab_ok mixed [] (.take 0 (.take 1 (.take 3 (.take 4 (.take 5 (.take 6 (.br 2 (.br 7 (.take 8 (.take 9 (.done))) (.nob)) (.nob)))))))) (by kernel_rfl) (by kernel_rfl) trivial ?_; conv => whnf
 refine ⟨[.x (ptr h)], fun w' hw => hb3.load (n := 1) (i := 0) (off := 0) hw rfl rfl, ?_⟩; conv => whnf
 refine ⟨[.i c.m], fun w' hw => hb5.load (n := 1) (i := 0) (off := 0) hw rfl rfl, ?_⟩; conv => whnf
 refine ⟨[.i c.f], fun w' hw => hb5.load (n := 1) (i := 0) (off := 1) hw rfl rfl, ?_⟩; conv => whnf
 refine ⟨?_, trivial⟩; conv => whnf
 refine ansR_call b36 (rd1 (nopS _)) (fun w' hw => spans_r h rb N hN mk w' (H.ext hw.fr)) ?_
 intro vs; conv => whnf
 refine ⟨⟨trivial, fun w' hw => hw.fr⟩, ?_⟩; conv => whnf
 refine ⟨?_, trivial⟩; conv => whnf
 refine ans_call (r := .b (hasS (entB N mk).spans c.m c.f)) b67 rfl (fun w' hw => has_c (entB N mk).spans c.m c.f [] vs w' (SlOf.of_row (hw.row (id := 0) rfl) (fun _ _ => nilS) (big (ent_sz hN mk)))) ?_; conv => whnf
 refine ⟨⟨trivial, fun w' hw => hw.fr⟩, ?_⟩; conv => whnf
 repeat refine zq ?_
 refine At.ret (At.doneB tab_ok hB _ rfl fun w' hw => ⟨rfl, hw.fr⟩)
def withB (N : List Nd) (marks : List Int) (c : Span) : List Int := marks.filter fun m => hasS (entB N m).spans c.m c.f
theorem with_r (h rb : Nat) (N : List Nd) (hN : NOk N) (marks : List Int) (c : Span) (mv : Value) (S : List Nat) (w : World) (hm : SlOf intT S w mv marks) (hml : marks.length ≤ 1000000) (H : HR [] w h rb N) : AnsR Tryz.prog 63 [ptr h, mv, vS c] [.row 3 1 ((withB N marks c).map encI)] w := by
 have hNl := hN.len
 replace hm := hm.avoid (S' := []) (fun b hb => by cases hb)
 refine calls_e [.x (ptr h), .x mv, .s (.agg (encS c))] Tryz.func63 rfl rfl (Nat.le_of_ble_eq_true rfl) trivial fun B hB => ?_
 repeat refine zq ?_
 refine zr ?_; conv => whnf
 refine ⟨rfl, ?_⟩; conv => whnf
 intro b3; conv => whnf
 intro b5; conv => whnf
 repeat refine zq ?_
 refine zr ?_; conv => whnf
 refine ansR_call b40 (rd1 (nopI _)) (fun w' hw => cloneI_c marks [] mv w' (hm.fr hw.fr) hml) ?_
 intro vm; conv => whnf
 refine row_call (id := 2) b80 rfl (fun r v' L' => r = .s (.c (.o 2 v')) ∧ L' = (withB N marks c).map encI) (fun w' hw => ?_) ?_
 ·have hap := hw.apart (i := 0) (j := 2) rfl rfl (by decide)
  have hap1 := hw.apart (i := 1) (j := 2) rfl rfl (by decide)
  refine (deleteI_c marks vm w' (hw.row (id := 2) rfl) (by omega) 109 #[ptr b3, ptr b5] (fun m => !hasS (entB N m).spans c.m c.f) b109 (fun x _ w'' hf => ?_)).mono ?_
  ·refine with1_r b3 b5 h rb N hN c x w'' (box_p (T := 28) ((hf.block b3 (Array.getElem?_eq_some_iff.1 (hw.box (id := 0) rfl)).1 (hap b3 (by simp [LO.blks]))).trans (hw.box (id := 0) rfl)) nilS) (box_s (T := 50) ((hf.block b5 (Array.getElem?_eq_some_iff.1 (hw.box (id := 1) rfl)).1 (hap1 b5 (by simp [LO.blks]))).trans (hw.box (id := 1) rfl)) nilS) ?_
   exact ((hw.liftH (H.avoid fun b hb => by cases hb)).avoid (S' := blkOf vm) (fun b hb => .inl (List.mem_flatMap.2 ⟨_, look_mem (s := 2) rfl, hb⟩))).fr hf |>.nilS
  ·rintro e w'' ⟨v', he, hh, hf, hb⟩
   refine ⟨.s (.c (.o 2 v')), v', _, he, ⟨rfl, rfl⟩, ?_, hf, fun b hb' => .inl (hb b hb')⟩
   unfold withB
   have e : (fun x => !(!hasS (entB N x).spans c.m c.f)) = (fun m => hasS (entB N m).spans c.m c.f) := by funext x; simp
   rw [e] at hh
   exact hh
 rintro r v2 L' ⟨rfl, rfl⟩ hsl
 refine ⟨hsl, nopI _, ?_⟩; conv => whnf
 repeat refine zq ?_
 refine At.ret (At.doneB tab_ok hB _ rfl fun w' hw => ansR_row (id := 2) hw rfl rfl rfl)
def spentB (N : List Nd) (c : Span) : List Int := withB N (spendsB N) c
theorem spentB_len (N : List Nd) (c : Span) : (spentB N c).length ≤ N.length := Nat.le_trans (List.length_filter_le _ _) (spendsB_len N)
theorem spent_r (h rb : Nat) (N : List Nd) (hN : NOk N) (c : Span) (w : World) (H : HR [] w h rb N) : AnsR Tryz.prog 27 [ptr h, vS c] [.row 3 1 ((spentB N c).map encI)] w := by
 have hNl := hN.len
 have hsl := spendsB_len N
 refine calls_e [.x (ptr h), .s (.agg (encS c))] Tryz.func27 rfl rfl (Nat.le_of_ble_eq_true rfl) trivial fun B hB => ?_
 repeat refine zq ?_
 refine zr ?_; conv => whnf
 intro b3; conv => whnf
 repeat refine zq ?_
 refine At.planG tab_ok mixed [(0, LO.box b3 50 (encS c))] (.take 0 (.take 1 (.take 3 (.br 2 (.br 4 (.take 5 (.done)) (.nob)) (.nob))))) (by kernel_rfl) (by kernel_rfl) ⟨rfl, trivial⟩ ?_; conv => whnf
 refine ⟨?_, trivial⟩; conv => whnf
 refine ansR_call b34 (rd1 (nopI _)) (fun w' hw => spends_r h rb N hN w' (H.ext hw.fr)) ?_
 intro vm; conv => whnf
 refine ⟨⟨⟨rfl, trivial⟩, fun w' hw => hw.fr⟩, ?_⟩; conv => whnf
 refine ⟨?_, trivial⟩; conv => whnf
 refine ansR_call b63 (rd1 (nopI _)) (fun w' hw => with_r h rb N hN (spendsB N) c vm [] w' (slI _ (hw.row (id := 1) rfl) (by omega)) (by omega) (H.ext hw.fr)) ?_
 intro vo; conv => whnf
 refine ⟨⟨⟨rfl, trivial⟩, fun w' hw => hw.fr⟩, ?_⟩; conv => whnf
 repeat refine zq ?_
 refine At.ret (At.doneB tab_ok hB _ rfl fun w' hw => ansR_row (id := 2) hw rfl rfl rfl)
end Go.Proofs.YtlobacpdhglnkaaGreatDoor
namespace Go.Proofs.YtlobacpdhglnkaaGreatDoor
open Go.Vc Rt Go.Bs
set_option maxHeartbeats 1000000
def okP (N : List Nd) (one : Bool) (a b : Int) : Bool := (!one || decide ((entB N a).author = (entB N b).author)) && apartB N a b
def pairB (N : List Nd) (one : Bool) : List Int → List Int
 | [] => []
 | a :: r => match r.find? (okP N one a) with
  | some b => [a, b]
  | none => pairB N one r
theorem find_first {α : Type} {p : α → Bool} : ∀ {xs : List α} {j : Nat} {b : α}, (∀ i y, i < j → xs[i]? = some y → p y = false) → xs[j]? = some b → p b = true → xs.find? p = some b
 | [], j, b, _, hb, _ => by simp at hb
 | x :: xs, 0, b, _, hb, hp => by simp at hb; subst hb; simp [hp]
 | x :: xs, j + 1, b, h, hb, hp => by
  have hx := h 0 x (by omega) rfl
  rw [List.find?_cons_of_neg (by simp [hx])]
  exact find_first (j := j) (fun i y hi hy => h (i + 1) y (by omega) (by simpa using hy)) (by simpa using hb) hp
theorem find_none {α : Type} {p : α → Bool} {xs : List α} (h : ∀ (i : Nat) y, xs[i]? = some y → p y = false) : xs.find? p = none := by
 rw [List.find?_eq_none]
 intro x hx
 obtain ⟨i, hi⟩ := List.getElem?_of_mem hx
 simp [h i x hi]
theorem drop_cons' {α : Type} {xs : List α} {k : Nat} {x : α} (hx : xs[k]? = some x) : xs.drop k = x :: xs.drop (k + 1) := by
 have hlt := (List.getElem?_eq_some_iff.1 hx).1
 rw [List.drop_eq_getElem_cons hlt]
 rw [List.getElem?_eq_getElem hlt] at hx
 rw [Option.some.inj hx]
theorem pair_r (h rb : Nat) (N : List Nd) (hN : NOk N) (l : List Int) (one : Bool) (lv : Value) (S : List Nat) (w : World) (hl : SlOf intT S w lv l) (hll : l.length ≤ 1000000) (H : HR [] w h rb N) : AnsR Tryz.prog 64 [ptr h, lv, .bool one] [.row 3 1 ((pairB N one l).map encI)] w := by
 replace hl := hl.avoid (S' := []) (fun b hb => by cases hb)
 have hln := hl.len
 refine calls_e [.x (ptr h), .x lv, .b one] Tryz.func64 rfl rfl (Nat.le_of_ble_eq_true rfl) trivial fun B hB => ?_
 repeat refine zq ?_
 refine zr ?_; conv => whnf
 repeat refine zq ?_
 refine zr ?_; conv => whnf
 refine ⟨hl.sl, ?_⟩; conv => whnf
 repeat refine zq ?_
 refine At.block ?_
 refine At.loopH (fun k : Nat => { N := Tryz.f64.ntmps, sl := [(0, some (.x ((ptr h)))), (1, some (.x lv)), (2, some (.b one)), (15, some (.x lv)), (16, some (.i l.length)), (17, some (.i k))], gl := [], hp := [], S := [], ws := w }) (fun k : Nat => k ≤ l.length ∧ pairB N one (l.drop k) = pairB N one l) (fun k : Nat => l.length - k)
  (fun w' hw => ⟨0, ⟨Nat.zero_le _, rfl⟩, Le.of rfl rfl ⟨rfl, rfl, rfl, rfl, congrArg (Value.int .i64) hln, rfl, trivial⟩, hw.same rfl rfl rfl, trivial, trivial⟩) ?_
 rintro k ⟨hk, hinv⟩
 repeat refine zq ?_
 refine zr ?_; conv => whnf
 repeat refine zq ?_
 refine At.cond rfl (fun hc => At.skip ?_) (fun hc => At.exit ?_)
 ·have hlta : k < l.length := by have := of_decide_eq_true hc; omega
  obtain ⟨a, ha⟩ : ∃ x, l[k]? = some x := ⟨_, List.getElem?_eq_getElem hlta⟩
  have hlt : k < l.length := by have := of_decide_eq_true hc; omega
  have hdr := drop_cons' ha
  have hsub := hl.part (lo := ((k : Int) + 1)) (hi := (l.length : Int)) (by omega) (by omega) (by omega)
  have hL : (l.take (l.length : Int).toNat).drop ((k : Int) + 1).toNat = l.drop (k + 1) := by rw [Int.toNat_natCast, List.take_length]; congr 1
  rw [hL] at hsub
  replace hsub : SlOf intT [] w (subV lv 1 ((k : Int) + 1) (slen lv)) (l.drop (k + 1)) := by rw [hln]; exact hsub
  have hsl := hsub.len
  rw [List.length_drop] at hsl
  rw [hdr] at hinv
  repeat refine zq ?_
  refine At.block ?_
  repeat refine zq ?_
  refine zr ?_; conv => whnf
  refine ⟨by omega, ?_⟩; conv => whnf
  refine ⟨by omega, ?_⟩; conv => whnf
  refine ⟨[.i a], fun w' hw => hl.load (n := 1) hw.fr ha rfl, ?_⟩; conv => whnf
  repeat refine zq ?_
  refine zr ?_; conv => whnf
  refine entry_call (h := h) (rb := rb) (N := N) (mk := a) hN (fun w' hw => H.ext hw.fr) ?_
  intro ka ya sa; conv => whnf
  intro b9; conv => whnf
  repeat refine zq ?_
  refine zr ?_; conv => whnf
  refine ⟨⟨by omega, by omega⟩, ?_⟩; conv => whnf
  refine ⟨hl.sl, ?_⟩; conv => whnf
  refine ⟨by omega, ?_⟩; conv => whnf
  refine ⟨by omega, ?_⟩; conv => whnf
  refine ⟨by omega, ?_⟩; conv => whnf
  refine ⟨hsub.sl, ?_⟩; conv => whnf
  repeat refine zq ?_
  refine At.block ?_
  refine At.loopH (fun j : Nat => { N := Tryz.f64.ntmps, sl := [(0, some (.x ((ptr h)))), (1, some (.x lv)), (2, some (.b one)), (8, some (.i a)), (9, some (.s (.c (.p 3 b9 0)))), (15, some (.x lv)), (16, some (.i l.length)), (17, some (.i k)), (31, some (.x ((subV lv 1 ((k : Int) + 1) (slen lv))))), (32, some (.i ((l.length - (k + 1) : Nat)))), (33, some (.i j))], gl := [], hp := [(3, LO.box b9 38 (encO (entB N a) 0 ka 1 ya 2 sa)), (2, .row sa 50 3 ((entB N a).spans.map encS)), (1, .row ya 3 1 ((entB N a).keys.map encI)), (0, .row ka 3 1 ((entB N a).knows.map encI))], S := [], ws := w }) (fun j : Nat => j ≤ l.length - (k + 1) ∧ ∀ i y, i < j → (l.drop (k + 1))[i]? = some y → okP N one a y = false) (fun j : Nat => l.length - (k + 1) - j)
   (fun w' hw => ⟨0, ⟨Nat.zero_le _, fun i y hi => by omega⟩, Le.of rfl rfl ⟨rfl, rfl, rfl, rfl, rfl, rfl, rfl, rfl, rfl, congrArg (Value.int .i64) hsl, rfl, trivial⟩, hw.keep [3, 2, 1, 0] rfl rfl rfl, ⟨⟨_, _, rfl⟩, trivial⟩, ⟨encO_ok ⟨_, _, _, rfl⟩ ⟨_, _, _, rfl⟩ ⟨_, _, _, rfl⟩, (nopS _).okH, (nopI _).okH, (nopI _).okH, trivial⟩⟩) ?_
  rintro j ⟨hj, hall⟩
  repeat refine zq ?_
  refine zr ?_; conv => whnf
  repeat refine zq ?_
  refine At.cond rfl (fun hc => At.skip ?_) (fun hc => At.exit ?_)
  ·have hjl : j < l.length - (k + 1) := by have := of_decide_eq_true hc; omega
   obtain ⟨b, hb⟩ : ∃ b, (l.drop (k + 1))[j]? = some b := ⟨_, List.getElem?_eq_getElem (by rw [List.length_drop]; exact hjl)⟩
   repeat refine zq ?_
   refine At.block ?_
   repeat refine zq ?_
   refine zr ?_; conv => whnf
   refine ⟨by omega, ?_⟩; conv => whnf
   refine ⟨by omega, ?_⟩; conv => whnf
   refine ⟨[.i b], fun w' hw => hsub.load (n := 1) hw.fr hb rfl, ?_⟩; conv => whnf
   repeat refine zq ?_
   refine zr ?_; conv => whnf
   refine entry_call (h := h) (rb := rb) (N := N) (mk := b) hN (fun w' hw => H.ext hw.fr) ?_
   intro kb yb sb; conv => whnf
   intro b13; conv => whnf
   repeat refine zq ?_
   refine zr ?_; conv => whnf
   refine ⟨.b (apartB N a b), gimp_of (ans_quiet b35 (fun w' hw => apart_r h rb N hN a b w' (H.ext hw.fr))), ?_⟩; conv => whnf
   repeat refine zq ?_
   refine At.cond rfl (fun hq => ?_) (fun hq => At.skip ?_)
   ·have hok : okP N one a b = true := by simpa [okP, band, bor] using hq
    have hres : pairB N one l = [a, b] := by
     rw [← hinv]
     show (match (l.drop (k + 1)).find? (okP N one a) with | some b => [a, b] | none => pairB N one (l.drop (k + 1))) = _
     rw [find_first hall hb hok]
    repeat refine zq ?_
    refine zr ?_; conv => whnf
    intro vr; conv => whnf
    repeat refine zq ?_
    refine At.ret (At.doneB tab_ok hB _ rfl fun w' hw => ?_)
    rw [hres]
    exact ansR_row (id := 8) hw rfl rfl rfl
   ·have hok : okP N one a b = false := by simpa [okP, band, bor] using hq
    repeat refine zq ?_
    refine zr ?_; conv => whnf
    refine ⟨⟨by omega, by omega⟩, ?_⟩; conv => whnf
    refine At.nextH fun w' hw => ⟨j + 1, ⟨by omega, fun i y hi hy => by rcases Nat.lt_or_ge i j with hi' | hi'; exact hall i y hi' hy; obtain rfl : i = j := (by omega); rw [hb] at hy; cases hy; exact hok⟩, by omega, Le.of rfl rfl ⟨rfl, rfl, rfl, rfl, rfl, rfl, rfl, rfl, rfl, rfl, rfl, trivial⟩, hw.keep [3, 2, 1, 0] rfl rfl rfl, ⟨⟨_, _, rfl⟩, trivial⟩, ⟨encO_ok ⟨_, _, _, rfl⟩ ⟨_, _, _, rfl⟩ ⟨_, _, _, rfl⟩, (nopS _).okH, (nopI _).okH, (nopI _).okH, trivial⟩⟩
  ·have hge : j = l.length - (k + 1) := by have := of_decide_eq_false hc; omega
   subst hge
   have hres : pairB N one (l.drop (k + 1)) = pairB N one l := by
    rw [← hinv]
    show _ = (match (l.drop (k + 1)).find? (okP N one a) with | some b => [a, b] | none => pairB N one (l.drop (k + 1)))
    rw [find_none (p := okP N one a) (fun i y hy => hall i y (by have := (List.getElem?_eq_some_iff.1 hy).1; rw [List.length_drop] at this; exact this) hy)]
   repeat refine zq ?_
   refine zr ?_; conv => whnf
   refine ⟨⟨by omega, by omega⟩, ?_⟩; conv => whnf
   refine At.nextH fun w' hw => ⟨k + 1, ⟨by omega, hres⟩, by omega, Le.of rfl rfl ⟨rfl, rfl, rfl, rfl, rfl, rfl, trivial⟩, hw.keep [] rfl rfl rfl, trivial, trivial⟩
 ·have hge : k = l.length := by have := of_decide_eq_false hc; omega
  subst hge
  rw [List.drop_length] at hinv
  repeat refine zq ?_
  refine zr ?_; conv => whnf
  repeat refine zq ?_
  refine At.ret (At.doneB tab_ok hB _ rfl fun w' hw => ?_)
  rw [← hinv]
  exact ansR_nil hw rfl rfl
end Go.Proofs.YtlobacpdhglnkaaGreatDoor
namespace Go.Proofs.YtlobacpdhglnkaaGreatDoor
open Go.Vc Rt Go.Bs
set_option maxHeartbeats 1000000
theorem ansD_row {f : FuncId} {args : List Value} {E size : Nat} {α : Type} {enc : α → List CV} {hl : ∀ x, (enc x).length = size} {xs : List α} {w : World} (h : AnsR Tryz.prog f args [.row E size (xs.map enc)] w) (hs : xs.length ≤ 9223372036854775807) : AnsD Tryz.prog f args (flat size enc hl) xs w :=
 h.mono fun e w' ⟨vs, he, ho, hx⟩ => by
  cases vs with
  | nil => exact ho.elim
  | cons v vs =>
   obtain ⟨h1, h2, h3, h4⟩ := ho
   have : vs = [] := h4
   subst this
   exact ⟨v, he, fun S hS => SlOf.of_row h1 (fun b hb hm => by have := h2 b hb; have := hS b hm; omega) hs, hx⟩
def lackRow (N : List Nd) (a : Int) (pre : List Int) : List Span := pre.flatMap fun b => if apartB N a b then common (entB N a).spans (entB N b).spans else []
def lackTo (N : List Nd) (l : List Int) (k : Nat) : List Span := (List.range k).flatMap fun i => lackRow N (l.getD i 0) (l.take i)
def lacksB (N : List Nd) : List Span := norm (lackTo N (spendsB N) (spendsB N).length)
structure Sm (N : List Nd) : Prop where
 len : N.length ≤ 24
 sp : ∀ n ∈ N, n.e.spans.length ≤ 40
theorem ent_sp {N : List Nd} (hS : Sm N) (mk : Int) : (entB N mk).spans.length ≤ 40 := by
 unfold entB
 split
 ·simp [zeroE]
 ·rename_i i hi
  obtain ⟨j, n, rfl, hj, _, hnj⟩ := hidx_spec hi
  rw [hnj]
  exact hS.sp n (List.mem_of_getElem? hj)
theorem comRow_len (x : Span) : ∀ ys : List Span, (comRow x ys).length ≤ ys.length := by
 intro ys
 unfold comRow
 induction ys with
 | nil => simp
 | cons y r ih =>
  simp only [List.filterMap_cons, List.flatMap_cons, List.length_append, List.length_cons] at ih ⊢
  split <;> simp at * <;> omega
theorem flatMap_len {α β : Type} (f : α → List β) (c : Nat) : ∀ (l : List α), (∀ x ∈ l, (f x).length ≤ c) → (l.flatMap f).length ≤ c * l.length
 | [], _ => by simp
 | x :: r, h => by
  have h1 := h x (by simp)
  have h2 := flatMap_len f c r fun y hy => h y (List.mem_cons_of_mem _ hy)
  rw [List.flatMap_cons, List.length_append, List.length_cons, Nat.mul_add, Nat.mul_one]; omega
theorem common_len {a b : List Span} (ha : a.length ≤ 40) (hb : b.length ≤ 40) : (common a b).length ≤ 1600 := by
 have h1 := norm_len a
 have h2 := norm_len b
 have h3 := norm_len (comAll (norm a) (norm b))
 have h4 : (comAll (norm a) (norm b)).length ≤ 40 * (norm a).length := flatMap_len _ 40 _ fun x _ => by have := comRow_len x (norm b); omega
 unfold common; omega
theorem lackRow_len {N : List Nd} (hS : Sm N) (a : Int) (pre : List Int) : (lackRow N a pre).length ≤ 1600 * pre.length := flatMap_len _ 1600 _ fun b _ => by
 split
 ·exact common_len (ent_sp hS _) (ent_sp hS _)
 ·simp
theorem lackTo_len {N : List Nd} (hS : Sm N) (l : List Int) : ∀ k, k ≤ 24 → (lackTo N l k).length ≤ 1600 * (k * k)
 | 0, _ => by simp [lackTo]
 | k + 1, hk => by
  have ih := lackTo_len hS l k (by omega)
  have h2 := lackRow_len hS (l.getD k 0) (l.take k)
  have h3 : (l.take k).length ≤ k := by rw [List.length_take]; omega
  have e : lackTo N l (k + 1) = lackTo N l k ++ lackRow N (l.getD k 0) (l.take k) := by unfold lackTo; rw [List.range_succ, List.flatMap_append]; simp
  rw [e, List.length_append]
  have h4 : 1600 * (l.take k).length ≤ 1600 * k := Nat.mul_le_mul_left _ h3
  have h5 : (k + 1) * (k + 1) = k * k + (2 * k + 1) := by rw [Nat.add_mul, Nat.mul_add]; omega
  rw [h5, Nat.mul_add]; omega
theorem lackRow_snoc {N : List Nd} {a : Int} {pre : List Int} {j : Nat} {b : Int} (hb : pre[j]? = some b) : lackRow N a (pre.take (j + 1)) = lackRow N a (pre.take j) ++ if apartB N a b then common (entB N a).spans (entB N b).spans else [] := by
 rw [take_snoc hb]; unfold lackRow; rw [List.flatMap_append]; simp
theorem lacks_r (h rb : Nat) (N : List Nd) (hN : NOk N) (hS : Sm N) (w : World) (H : HR [] w h rb N) : AnsR Tryz.prog 7 [ptr h] [.row 50 3 ((lacksB N).map encS)] w := by
 have hN30 := hS.len
 have hsl := spendsB_len N
 refine calls_e [.x (ptr h)] Tryz.func7 rfl rfl (Nat.le_of_ble_eq_true rfl) trivial fun B hB => ?_
 repeat refine zq ?_
 refine zr ?_; conv => whnf
 repeat refine zq ?_
 refine zr ?_; conv => whnf
 refine fresh_call b34 (fun w' hw => ansD_row (enc := fun n : Int => [.i n]) (hl := fun _ => rfl) (spends_r h rb N hN w' (H.ext hw.fr)) (by omega)) ?_
 intro lv w1 w2 hw1 hx12 hl; conv => whnf
 replace H : HR [] w2 h rb N := (H.ext hw1.fr).ext hx12
 have hx : Ext w w2 := hw1.fr.trans hx12
 clear hw1
 replace hl : SlOf intT [] w2 lv (spendsB N) := hl
 have hln := hl.len
 generalize hll : spendsB N = l at hsl hl hln
 repeat refine zq ?_
 refine zr ?_; conv => whnf
 repeat refine zq ?_
 refine zr ?_; conv => whnf
 refine ⟨hl.sl, ?_⟩; conv => whnf
 repeat refine zq ?_
 refine At.block ?_
 refine At.loopH (fun p' : Nat × Value => { N := Tryz.f7.ntmps, sl := [(0, some (.x ((ptr h)))), (3, some (.x lv)), (4, some (.s (.c (.o 0 p'.2)))), (11, some (.x lv)), (12, some (.i l.length)), (13, some (.i p'.1))], gl := [], hp := [(0, .row p'.2 50 3 ((lackTo N l p'.1).map encS))], S := [], ws := w2 }) (fun p' : Nat × Value => p'.1 ≤ l.length) (fun p' : Nat × Value => l.length - p'.1)
  (fun w' hw => ⟨(0, .slice none 0 0), Nat.zero_le _, Le.of rfl rfl ⟨rfl, rfl, rfl, rfl, congrArg (Value.int .i64) hln, rfl, trivial⟩, hw.nil rfl rfl rfl, ⟨⟨_, _, _, rfl⟩, trivial⟩, ⟨(nopS _).okH, trivial⟩⟩) ?_
 rintro ⟨k, vo⟩ hk
 simp only at hk ⊢
 repeat refine zq ?_
 refine zr ?_; conv => whnf
 repeat refine zq ?_
 refine At.cond rfl (fun hc => At.skip ?_) (fun hc => At.exit ?_)
 ·have hlta : k < l.length := by have := of_decide_eq_true hc; omega
  obtain ⟨a, ha⟩ : ∃ x, l[k]? = some x := ⟨_, List.getElem?_eq_getElem hlta⟩
  have hlt : k < l.length := by have := of_decide_eq_true hc; omega
  have hsub := hl.begin (hi := (k : Int)) (k := k) rfl (by omega)
  replace hsub : SlOf intT [] w2 (subV lv 1 0 k) (l.take k) := hsub
  have hsln := hsub.len
  rw [List.length_take, Nat.min_eq_left (by omega)] at hsln
  have htl := lackTo_len hS l k (by omega)
  have hkk : k * k ≤ 24 * 24 := Nat.mul_le_mul (by omega) (by omega)
  have hto : lackTo N l (k + 1) = lackTo N l k ++ lackRow N a (l.take k) := by
   unfold lackTo; rw [List.range_succ, List.flatMap_append]; simp [List.getD_eq_getElem?_getD, ha]
  repeat refine zq ?_
  refine At.block ?_
  repeat refine zq ?_
  refine zr ?_; conv => whnf
  refine ⟨by omega, ?_⟩; conv => whnf
  refine ⟨by omega, ?_⟩; conv => whnf
  refine ⟨[.i a], fun w' hw => hl.load (n := 1) hw.fr ha rfl, ?_⟩; conv => whnf
  repeat refine zq ?_
  refine zr ?_; conv => whnf
  refine ⟨hl.sl, ?_⟩; conv => whnf
  refine ⟨by omega, ?_⟩; conv => whnf
  refine ⟨by omega, ?_⟩; conv => whnf
  refine ⟨by omega, ?_⟩; conv => whnf
  refine ⟨hsub.sl, ?_⟩; conv => whnf
  repeat refine zq ?_
  refine At.block ?_
  refine At.loopH (fun p' : Nat × Value => { N := Tryz.f7.ntmps, sl := [(0, some (.x ((ptr h)))), (3, some (.x lv)), (4, some (.s (.c (.o 0 p'.2)))), (6, some (.i a)), (11, some (.x lv)), (12, some (.i l.length)), (13, some (.i k)), (20, some (.x ((subV lv 1 0 k)))), (21, some (.i k)), (22, some (.i p'.1))], gl := [], hp := [(0, .row p'.2 50 3 ((lackTo N l k ++ lackRow N a ((l.take k).take p'.1)).map encS))], S := [], ws := w2 }) (fun p' : Nat × Value => p'.1 ≤ k) (fun p' : Nat × Value => k - p'.1)
   (fun w' hw => ⟨(0, vo), Nat.zero_le _, Le.of rfl rfl ⟨rfl, rfl, rfl, rfl, rfl, rfl, rfl, rfl, congrArg (Value.int .i64) hsln, rfl, trivial⟩, hw.keep [0] ?_ rfl rfl, ⟨⟨_, _, _, rfl⟩, trivial⟩, ⟨(nopS _).okH, trivial⟩⟩) ?_
  ·show [(0, LO.row vo 50 3 _)] = [(0, LO.row vo 50 3 _)]
   simp [lackRow]
  rintro ⟨j, vq⟩ hj
  simp only at hj ⊢
  repeat refine zq ?_
  refine zr ?_; conv => whnf
  repeat refine zq ?_
  refine At.cond rfl (fun hc => At.skip ?_) (fun hc => At.exit ?_)
  ·have hjl : j < k := by have := of_decide_eq_true hc; omega
   obtain ⟨b, hb⟩ : ∃ b, (l.take k)[j]? = some b := ⟨_, List.getElem?_eq_getElem (by rw [List.length_take]; omega)⟩
   have hsn := lackRow_snoc (N := N) (a := a) hb
   have hrl := lackRow_len hS a ((l.take k).take j)
   have hrl2 : ((l.take k).take j).length ≤ 24 := by rw [List.length_take]; omega
   have hcl := common_len (ent_sp hS a) (ent_sp hS b)
   repeat refine zq ?_
   refine At.block ?_
   repeat refine zq ?_
   refine zr ?_; conv => whnf
   refine ⟨by omega, ?_⟩; conv => whnf
   refine ⟨by omega, ?_⟩; conv => whnf
   refine ⟨[.i b], fun w' hw => hsub.load (n := 1) hw.fr hb rfl, ?_⟩; conv => whnf
   repeat refine zq ?_
   refine zr ?_; conv => whnf
   refine ans_call b35 rfl (fun w' hw => apart_r h rb N hN a b w' (H.ext hw.fr)) ?_; conv => whnf
   repeat refine zq ?_
   cases hab : apartB N a b with
   | false =>
    rw [hab, if_neg (by decide), List.append_nil] at hsn
    refine At.cond (t := false) rfl (fun hq => by cases hq) (fun _ => At.skip ?_)
    repeat refine zq ?_
    refine zr ?_; conv => whnf
    refine ⟨⟨by omega, by omega⟩, ?_⟩; conv => whnf
    refine At.nextH fun w' hw => ⟨(j + 1, vq), by simp only; omega, by simp only; omega, Le.of rfl rfl ⟨rfl, rfl, rfl, rfl, rfl, rfl, rfl, rfl, rfl, rfl, trivial⟩, hw.keep [0] (by simp only [hsn]; rfl) rfl rfl, ⟨⟨_, _, _, rfl⟩, trivial⟩, ⟨(nopS _).okH, trivial⟩⟩
   | true =>
    rw [hab, if_pos rfl] at hsn
    refine At.cond (t := true) rfl (fun _ => ?_) (fun hq => by cases hq)
    repeat refine zq ?_
    refine zr ?_; conv => whnf
    refine ansR_call b36 (rd1 (nopS _)) (fun w' hw => spans_r h rb N hN a w' (H.ext hw.fr)) ?_
    intro va; conv => whnf
    refine ansR_call b36 (rd1 (nopS _)) (fun w' hw => spans_r h rb N hN b w' (H.ext hw.fr)) ?_
    intro vb; conv => whnf
    have hsa := ent_sp hS a
    have hsb := ent_sp hS b
    refine ansR_call b16 (rd1 (nopS _)) (fun w' hw => common_c (entB N a).spans (entB N b).spans [] [] va vb w' (slS _ (hw.row (id := 1) rfl) (by omega)) (slS _ (hw.row (id := 2) rfl) (by omega)) (by omega) (by omega)) ?_
    intro vc; conv => whnf
    refine ⟨rfl, ?_⟩
    refine obl_map encS_ints ?_; conv => whnf
    refine ⟨⟨rfl, by simp only [List.length_map, List.length_append]; omega⟩, ?_⟩; conv => whnf
    intro vq2; conv => whnf
    repeat refine zq ?_
    refine zr ?_; conv => whnf
    refine ⟨⟨by omega, by omega⟩, ?_⟩; conv => whnf
    refine At.nextH fun w' hw => ⟨(j + 1, vq2), by simp only; omega, by simp only; omega, Le.of rfl rfl ⟨rfl, rfl, rfl, rfl, rfl, rfl, rfl, rfl, rfl, rfl, trivial⟩, hw.keep [0] ?_ rfl rfl, ⟨⟨_, _, _, rfl⟩, trivial⟩, ⟨(nopS _).okH, trivial⟩⟩
    show [(0, LO.row vq2 50 3 _)] = [(0, LO.row vq2 50 3 _)]
    rw [hsn, ← List.append_assoc, List.map_append (l₁ := lackTo N l k ++ lackRow N a ((l.take k).take j))]
  ·have hge : j = k := by have := of_decide_eq_false hc; omega
   subst hge
   rw [List.take_take, Nat.min_self]
   repeat refine zq ?_
   refine zr ?_; conv => whnf
   refine ⟨⟨by omega, by omega⟩, ?_⟩; conv => whnf
   refine At.nextH fun w' hw => ⟨(j + 1, vq), by simp only; omega, by simp only; omega, Le.of rfl rfl ⟨rfl, rfl, rfl, rfl, rfl, rfl, trivial⟩, hw.keep [0] (by simp only [hto]; rfl) rfl rfl, ⟨⟨_, _, _, rfl⟩, trivial⟩, ⟨(nopS _).okH, trivial⟩⟩
 ·have hge : k = l.length := by have := of_decide_eq_false hc; omega
  subst hge
  have htl := lackTo_len hS l l.length (by omega)
  have hkk : l.length * l.length ≤ 24 * 24 := Nat.mul_le_mul (by omega) (by omega)
  repeat refine zq ?_
  refine zr ?_; conv => whnf
  refine ansR_call b37 (rd1 (nopS _)) (fun w' hw => norm_c (lackTo N l l.length) [] vo w' (slS _ (hw.row (id := 0) rfl) (by omega)) (by omega)) ?_
  intro vn; conv => whnf
  repeat refine zq ?_
  refine At.ret (At.doneB tab_ok hB _ rfl fun w' hw => ?_)
  unfold lacksB
  rw [hll]
  exact ⟨[vn], rfl, ⟨hw.row (id := 1) rfl, fun b hb => (hw.fresh (id := 1) rfl b hb).elim (fun h => by cases h) (fun h => Nat.le_trans hx.size h), fun u hu => (by cases hu), rfl⟩, hx.trans hw.fr⟩
theorem lacksB_len {N : List Nd} (hS : Sm N) : (lacksB N).length ≤ 1000000 := by
 have h1 := spendsB_len N
 have h2 := hS.len
 have h3 := lackTo_len hS (spendsB N) (spendsB N).length (by omega)
 have h4 := norm_len (lackTo N (spendsB N) (spendsB N).length)
 have hkk : (spendsB N).length * (spendsB N).length ≤ 24 * 24 := Nat.mul_le_mul (by omega) (by omega)
 unfold lacksB; omega
theorem lack_r (h rb : Nat) (N : List Nd) (hN : NOk N) (hS : Sm N) (w : World) (H : HR [] w h rb N) : Ans Tryz.prog 9 [ptr h] (.i (count (lacksB N))) w := by
 have hl := lacksB_len hS
 refine calls_e [.x (ptr h)] Tryz.func9 rfl rfl (Nat.le_of_ble_eq_true rfl) trivial fun B hB => ?_
 repeat refine zq ?_
 refine zr ?_; conv => whnf
 repeat refine zq ?_
 refine zr ?_; conv => whnf
 refine ansR_call b7 (rd1 (nopS _)) (fun w' hw => lacks_r h rb N hN hS w' (H.ext hw.fr)) ?_
 intro vl; conv => whnf
 refine ans_call b10 rfl (fun w' hw => count_c (lacksB N) [] vl w' (slS _ (hw.row (id := 0) rfl) hl) hl) ?_; conv => whnf
 repeat refine zq ?_
 refine At.ret (At.doneB tab_ok hB _ rfl fun w' hw => ⟨rfl, hw.fr⟩)
end Go.Proofs.YtlobacpdhglnkaaGreatDoor
namespace Go.Proofs.YtlobacpdhglnkaaGreatDoor
open Go.Vc Rt Go.Bs
theorem eq_of_upto {α : Type} {a b : List α} (hl : a.length = b.length) (h : ∀ (i : Nat) x y, i < a.length → a[i]? = some x → b[i]? = some y → x = y) : a = b := by
 apply List.ext_getElem?
 intro i
 by_cases hi : i < a.length
 ·rw [List.getElem?_eq_getElem hi, List.getElem?_eq_getElem (by omega)]
  rw [h i _ _ hi (List.getElem?_eq_getElem hi) (List.getElem?_eq_getElem (by omega))]
 ·rw [List.getElem?_eq_none (by omega), List.getElem?_eq_none (by omega)]
theorem ints_r (a b : List Int) (v u : Value) (w : World) (h : SlOf intT [] w v a) (h' : SlOf intT [] w u b) : Ans Tryz.prog 26 [v, u] (.b (decide (a = b))) w := by
 have hsm := h.small
 have hln := h.len
 have hln' := h'.len
 refine calls_plainB [.x v, .x u] Tryz.func26 rfl rfl (Nat.le_of_ble_eq_true rfl) rfl fun B hB => ?_
 repeat refine zq ?_
 refine zr ?_; conv => whnf
 repeat refine zq ?_
 refine zr ?_; conv => whnf
 refine ⟨h.sl, ?_⟩; conv => whnf
 refine ⟨h'.sl, ?_⟩; conv => whnf
 repeat refine zq ?_
 refine At.cond rfl (fun hq => ?_) (fun hq => At.skip ?_)
 ·have hne : a.length ≠ b.length := by simp at hq; omega
  repeat refine zq ?_
  refine zr ?_; conv => whnf
  repeat refine zq ?_
  refine At.ret (At.doneB tab_ok hB _ rfl fun w' hw => ⟨?_, hw.fr⟩)
  rw [decide_eq_false (fun e => hne (by rw [e]))]
 have hne : a.length = b.length := by simp at hq; omega
 clear hq
 repeat refine zq ?_
 refine zr ?_; conv => whnf
 repeat refine zq ?_
 refine At.block ?_
 refine At.loopH (fun k : Nat => { N := Tryz.f26.ntmps, sl := [(0, some (.x v)), (1, some (.x u)), (5, some (.i k))], gl := [], hp := [], S := [], ws := w }) (fun k : Nat => k ≤ a.length ∧ ∀ (j : Nat) x y, j < k → a[j]? = some x → b[j]? = some y → x = y) (fun k : Nat => a.length - k)
  (fun w' hw => ⟨0, ⟨Nat.zero_le _, fun j x y hj => by omega⟩, Le.of rfl rfl ⟨rfl, rfl, rfl, trivial⟩, hw.same rfl rfl rfl, trivial, trivial⟩) ?_
 rintro k ⟨hk, hall⟩
 repeat refine zq ?_
 refine zr ?_; conv => whnf
 refine ⟨h.sl, ?_⟩; conv => whnf
 repeat refine zq ?_
 refine At.cond rfl (fun hc => At.skip ?_) (fun hc => At.exit ?_)
 ·have hlt : k < a.length := by have := of_decide_eq_true hc; omega
  obtain ⟨x, hx⟩ : ∃ x, a[k]? = some x := ⟨_, List.getElem?_eq_getElem hlt⟩
  have hlt : k < a.length := by have := of_decide_eq_true hc; omega
  obtain ⟨y, hy⟩ : ∃ y, b[k]? = some y := ⟨_, List.getElem?_eq_getElem (by omega)⟩
  repeat refine zq ?_
  refine At.block ?_
  repeat refine zq ?_
  refine At.planG tab_ok mixed [] (.take 0 (.take 1 (.take 2 (.take 3 (.take 4 (.take 5 (.take 6 (.take 7 (.take 8 (.done)))))))))) (by kernel_rfl) (by kernel_rfl) trivial ?_; conv => whnf
  refine ⟨by omega, ?_⟩; conv => whnf
  refine ⟨by omega, ?_⟩; conv => whnf
  refine ⟨[.i x], fun w' hw => h.load (n := 1) hw hx rfl, ?_⟩; conv => whnf
  refine ⟨by omega, ?_⟩; conv => whnf
  refine ⟨by omega, ?_⟩; conv => whnf
  refine ⟨[.i y], fun w' hw => h'.load (n := 1) hw hy rfl, ?_⟩; conv => whnf
  repeat refine zq ?_
  refine At.cond rfl (fun hq => ?_) (fun hq => At.skip ?_)
  ·have hxy : x ≠ y := by simpa using hq
   repeat refine zq ?_
   refine zr ?_; conv => whnf
   repeat refine zq ?_
   refine At.ret (At.doneB tab_ok hB _ rfl fun w' hw => ⟨?_, hw.fr⟩)
   rw [decide_eq_false (fun e => hxy (by subst e; rw [hx] at hy; exact Option.some.inj hy))]
  ·have hxy : x = y := by simpa using hq
   repeat refine zq ?_
   refine zr ?_; conv => whnf
   refine ⟨⟨by omega, by omega⟩, ?_⟩; conv => whnf
   refine At.nextH fun w' hw => ⟨k + 1, ⟨by omega, fun j x' y' hj hx' hy' => by rcases Nat.lt_or_ge j k with hj' | hj'; exact hall j x' y' hj' hx' hy'; obtain rfl : j = k := (by omega); rw [hx] at hx'; rw [hy] at hy'; cases hx'; cases hy'; exact hxy⟩, by omega, Le.of rfl rfl ⟨rfl, rfl, rfl, trivial⟩, hw.keep [] rfl rfl rfl, trivial, trivial⟩
 ·have hge : k = a.length := by have := of_decide_eq_false hc; omega
  subst hge
  repeat refine zq ?_
  refine zr ?_; conv => whnf
  repeat refine zq ?_
  refine At.ret (At.doneB tab_ok hB _ rfl fun w' hw => ⟨?_, hw.fr⟩)
  rw [decide_eq_true (eq_of_upto hne fun i x y hi => hall i x y hi)]
theorem spansEq_r (a b : List Span) (v u : Value) (w : World) (h : SlOf spT [] w v a) (h' : SlOf spT [] w u b) : Ans Tryz.prog 17 [v, u] (.b (decide (a = b))) w := by
 have hsm := h.small
 have hln := h.len
 have hln' := h'.len
 refine calls_plainB [.x v, .x u] Tryz.func17 rfl rfl (Nat.le_of_ble_eq_true rfl) rfl fun B hB => ?_
 repeat refine zq ?_
 refine zr ?_; conv => whnf
 repeat refine zq ?_
 refine zr ?_; conv => whnf
 refine ⟨h.sl, ?_⟩; conv => whnf
 refine ⟨h'.sl, ?_⟩; conv => whnf
 repeat refine zq ?_
 refine At.cond rfl (fun hq => ?_) (fun hq => At.skip ?_)
 ·have hne : a.length ≠ b.length := by simp at hq; omega
  repeat refine zq ?_
  refine zr ?_; conv => whnf
  repeat refine zq ?_
  refine At.ret (At.doneB tab_ok hB _ rfl fun w' hw => ⟨?_, hw.fr⟩)
  rw [decide_eq_false (fun e => hne (by rw [e]))]
 have hne : a.length = b.length := by simp at hq; omega
 clear hq
 repeat refine zq ?_
 refine zr ?_; conv => whnf
 repeat refine zq ?_
 refine At.block ?_
 refine At.loopH (fun k : Nat => { N := Tryz.f17.ntmps, sl := [(0, some (.x v)), (1, some (.x u)), (5, some (.i k))], gl := [], hp := [], S := [], ws := w }) (fun k : Nat => k ≤ a.length ∧ ∀ (j : Nat) x y, j < k → a[j]? = some x → b[j]? = some y → x = y) (fun k : Nat => a.length - k)
  (fun w' hw => ⟨0, ⟨Nat.zero_le _, fun j x y hj => by omega⟩, Le.of rfl rfl ⟨rfl, rfl, rfl, trivial⟩, hw.same rfl rfl rfl, trivial, trivial⟩) ?_
 rintro k ⟨hk, hall⟩
 repeat refine zq ?_
 refine zr ?_; conv => whnf
 refine ⟨h.sl, ?_⟩; conv => whnf
 repeat refine zq ?_
 refine At.cond rfl (fun hc => At.skip ?_) (fun hc => At.exit ?_)
 ·have hlt : k < a.length := by have := of_decide_eq_true hc; omega
  obtain ⟨x, hx⟩ : ∃ x, a[k]? = some x := ⟨_, List.getElem?_eq_getElem hlt⟩
  have hlt : k < a.length := by have := of_decide_eq_true hc; omega
  obtain ⟨y, hy⟩ : ∃ y, b[k]? = some y := ⟨_, List.getElem?_eq_getElem (by omega)⟩
  repeat refine zq ?_
  refine At.block ?_
  repeat refine zq ?_
  refine At.planG tab_ok mixed [] (.take 0 (.take 1 (.take 2 (.take 3 (.take 4 (.take 5 (.take 6 (.take 7 (.take 8 (.done)))))))))) (by kernel_rfl) (by kernel_rfl) trivial ?_; conv => whnf
  refine ⟨by omega, ?_⟩; conv => whnf
  refine ⟨by omega, ?_⟩; conv => whnf
  refine ⟨encS x, fun w' hw => h.load (n := 3) hw hx rfl, ?_⟩; conv => whnf
  refine ⟨by omega, ?_⟩; conv => whnf
  refine ⟨by omega, ?_⟩; conv => whnf
  refine ⟨encS y, fun w' hw => h'.load (n := 3) hw hy rfl, ?_⟩; conv => whnf
  repeat refine zq ?_
  refine At.cond rfl (fun hq => ?_) (fun hq => At.skip ?_)
  ·have hxy : x ≠ y := fun e => by subst e; simp at hq
   repeat refine zq ?_
   refine zr ?_; conv => whnf
   repeat refine zq ?_
   refine At.ret (At.doneB tab_ok hB _ rfl fun w' hw => ⟨?_, hw.fr⟩)
   rw [decide_eq_false (fun e => hxy (by subst e; rw [hx] at hy; exact Option.some.inj hy))]
  ·have hxy : x = y := by
    have h3 : x.m = y.m ∧ x.f = y.f ∧ x.t = y.t := by simpa using hq
    obtain ⟨h1, h2, h3⟩ := h3
    cases x; cases y; simp only at h1 h2 h3; subst h1; subst h2; subst h3; rfl
   repeat refine zq ?_
   refine zr ?_; conv => whnf
   refine ⟨⟨by omega, by omega⟩, ?_⟩; conv => whnf
   refine At.nextH fun w' hw => ⟨k + 1, ⟨by omega, fun j x' y' hj hx' hy' => by rcases Nat.lt_or_ge j k with hj' | hj'; exact hall j x' y' hj' hx' hy'; obtain rfl : j = k := (by omega); rw [hx] at hx'; rw [hy] at hy'; cases hx'; cases hy'; exact hxy⟩, by omega, Le.of rfl rfl ⟨rfl, rfl, rfl, trivial⟩, hw.keep [] rfl rfl rfl, trivial, trivial⟩
 ·have hge : k = a.length := by have := of_decide_eq_false hc; omega
  subst hge
  repeat refine zq ?_
  refine zr ?_; conv => whnf
  repeat refine zq ?_
  refine At.ret (At.doneB tab_ok hB _ rfl fun w' hw => ⟨?_, hw.fr⟩)
  rw [decide_eq_true (eq_of_upto hne fun i x y hi => hall i x y hi)]
end Go.Proofs.YtlobacpdhglnkaaGreatDoor
namespace Go.Proofs.YtlobacpdhglnkaaGreatDoor
open Go.RowKit
def pp1 (x : Int) : Int := IntKind.u64.wrap (bits .and .u64 (x / 2) 6148914691236517205 + bits .and .u64 x 6148914691236517205)
def pp2 (x : Int) : Int := IntKind.u64.wrap (bits .and .u64 (x / 4) 3689348814741910323 + bits .and .u64 x 3689348814741910323)
def pp3 (x : Int) : Int := bits .and .u64 (IntKind.u64.wrap (x / 16 + x)) 1085102592571150095
def pp4 (x : Int) : Int := IntKind.u64.wrap (x + x / 256)
def pp5 (x : Int) : Int := IntKind.u64.wrap (x + x / 65536)
def pp6 (x : Int) : Int := IntKind.u64.wrap (x + x / 4294967296)
def pop64 (x : Int) : Int := bits .and .i64 (wrap64 (pp6 (pp5 (pp4 (pp3 (pp2 (pp1 x))))))) 127
def popN (n : Nat) : Nat := ((List.range 12).filter fun k => n.testBit k).length
theorem pop_fin2 : ∀ a b : Fin 64, pop64 ((a.val * 64 + b.val : Nat) : Int) = (popN (a.val * 64 + b.val) : Int) := by decide +kernel
theorem pop_fin (n : Nat) (h : n < 4096) : pop64 (n : Int) = (popN n : Int) := by
 have := pop_fin2 ⟨n / 64, by omega⟩ ⟨n % 64, by omega⟩
 rwa [show (⟨n / 64, by omega⟩ : Fin 64).val * 64 + (⟨n % 64, by omega⟩ : Fin 64).val = n by show n / 64 * 64 + n % 64 = n; omega] at this
theorem ones64_w (x : Int) (h0 : 0 ≤ x) (h1 : x < 4096) (w : World) : Calls Tryz.prog 106 #[.int .u64 x] w (fun e w' => e = .returned (.int .i64 (pop64 x)) ∧ w' = w) := by
 go_enter Tryz.func106, Tryz.ntmps106
 go_wp2
 go_ret
 refine ⟨?_, rfl⟩
 rfl
end Go.Proofs.YtlobacpdhglnkaaGreatDoor
namespace Go.Proofs.YtlobacpdhglnkaaGreatDoor
open Go.Vc Rt Go.Bs
theorem ones64_c (n : Nat) (hn : n < 4096) (w : World) : Ans Tryz.prog 106 [.int .u64 n] (.i (popN n)) w :=
 (ones64_w n (by omega) (by omega) w).mono fun e w' ⟨he, hw⟩ => ⟨by rw [he, pop_fin n hn]; rfl, by rw [hw]; exact Fr.refl _ _⟩
theorem ones_c (n : Nat) (hn : n < 4096) (w : World) : Ans Tryz.prog 58 [.int .u64 n] (.i (popN n)) w := by
 refine calls_plainB [.x (.int .u64 n)] Tryz.func58 rfl rfl (Nat.le_of_ble_eq_true rfl) rfl fun B hB => ?_
 repeat refine zq ?_
 refine zr ?_; conv => whnf
 repeat refine zq ?_
 refine At.cond (t := false) rfl (fun hq => by cases hq) (fun _ => At.skip ?_)
 repeat refine zq ?_
 refine zr ?_; conv => whnf
 refine ans_call b106 rfl (fun w' _ => ones64_c n hn w') ?_; conv => whnf
 repeat refine zq ?_
 refine At.ret (At.doneB tab_ok hB _ rfl fun w' hw => ⟨rfl, hw.fr⟩)
end Go.Proofs.YtlobacpdhglnkaaGreatDoor
namespace Go.Proofs.YtlobacpdhglnkaaGreatDoor
open Go.Vc Rt Go.Bs
set_option maxHeartbeats 1000000
theorem At.scope {P : Program} {Q : Exit → Act → World → Prop} {c : Code} {st : St} (h : At st (c.wp P (Exit.noGoto Q))) : At st ((Code.scope c).wp P Q) := ⟨fun hwf a w hr hw => wp_scope_straight (h.out hwf a w hr hw)⟩
theorem At.label {P : Program} {Q : Exit → Act → World → Prop} {l : Nat} {st : St} (h : At st (Q .normal)) : At st ((Code.label l).wp P Q) := ⟨fun hwf a w hr hw => wp_label (h.out hwf a w hr hw)⟩
def vT1 : Ty Value := flat 1 (fun v => [.x v]) (fun _ => rfl)
theorem box_v {w : World} {b : Nat} {T : TypeId} {S : List Nat} {v : Value} (hb : w.heap[b]? = some (.cells #[v] T (0, 0))) (hS : b ∉ S) : SlOf vT1 S w (hs b) [v] := by
 have hrow : (LO.row (hs b) T 1 ([v].map fun v => [CV.x v])).holds w := ⟨⟨rfl, .inr ⟨b, 0, 1, _, rfl, hb, Nat.le_refl 1, by unfold maxLen; omega, by simp, rfl⟩⟩, fun l hl => by rw [List.mem_singleton.1 hl]; rfl⟩
 exact SlOf.of_row (enc := fun v => [.x v]) hrow (fun b' hb' => by simp only [hs, blkOf, List.mem_singleton] at hb'; rw [hb']; exact hS) (by simp)
theorem box_i {w : World} {b : Nat} {T : TypeId} {S : List Nat} {n : Int} (hb : w.heap[b]? = some (.cells #[.int .i64 n] T (0, 0))) (hS : b ∉ S) : SlOf intT S w (hs b) [n] := by
 have hrow : (LO.row (hs b) T 1 ([n].map fun n => [CV.i n])).holds w := ⟨⟨rfl, .inr ⟨b, 0, 1, _, rfl, hb, Nat.le_refl 1, by unfold maxLen; omega, by simp, rfl⟩⟩, fun l hl => by rw [List.mem_singleton.1 hl]; rfl⟩
 exact SlOf.of_row (enc := fun n => [.i n]) hrow (fun b' hb' => by simp only [hs, blkOf, List.mem_singleton] at hb'; rw [hb']; exact hS) (by simp)
def knowsB (K : List (List Int)) (m p : Int) : Bool := hasI (K.getD p.toNat []) m
theorem ask1_c (K : List (List Int)) (kv : Value) (b2 b12 : Nat) (m p : Int) (w : World) (hK : SlOf (slT intT) [] w kv K) (hb2 : SlOf vT1 [] w (hs b2) [kv]) (hb12 : SlOf intT [] w (hs b12) [m]) (hp0 : 0 ≤ p) (hp1 : p < K.length) : Ans Tryz.prog 60 [vI p, ptr b2, ptr b12] (.b (knowsB K m p)) w := by
 have hln := hK.len
 obtain ⟨x, hx⟩ : ∃ x, K[p.toNat]? = some x := ⟨_, List.getElem?_eq_getElem (by omega)⟩
 obtain ⟨_, ⟨u, rfl, hu⟩, hc2⟩ := hK.at hx
 have hpp : ((p.toNat : Nat) : Int) = p := by omega
 rw [hpp] at hc2
 refine calls_e [.i p, .s (.c (.e (hs b2) 1 0 0)), .s (.c (.e (hs b12) 1 0 0))] Tryz.func60 rfl rfl (Nat.le_of_ble_eq_true rfl) ⟨⟨_, _, _, rfl⟩, ⟨_, _, _, rfl⟩, trivial⟩ fun B hB => ?_
 repeat refine zq ?_
 refine zr ?_; conv => whnf
 repeat refine zq ?_
 refine At.planG tab_ok mixed [] (.take 0 (.take 1 (.take 2 (.take 3 (.take 4 (.br 5 (.take 6 (.done)) (.nob))))))) (by kernel_rfl) (by kernel_rfl) trivial ?_; conv => whnf
 refine ⟨[.x kv], fun w' hw => hb2.load (n := 1) (i := 0) (off := 0) hw rfl rfl, ?_⟩; conv => whnf
 refine ⟨by omega, ?_⟩; conv => whnf
 refine ⟨by omega, ?_⟩; conv => whnf
 refine ⟨[.x u], fun w' hw => hc2 w' hw, ?_⟩; conv => whnf
 refine ⟨[.i m], fun w' hw => hb12.load (n := 1) (i := 0) (off := 0) hw rfl rfl, ?_⟩; conv => whnf
 refine ⟨?_, trivial⟩; conv => whnf
 refine ans_call b61 rfl (fun w' hw => contains_c x m [] u w' (hu.fr hw.fr)) ?_; conv => whnf
 refine ⟨⟨trivial, fun w' hw => hw.fr⟩, ?_⟩; conv => whnf
 repeat refine zq ?_
 refine At.ret (At.doneB tab_ok hB _ rfl fun w' hw => ⟨by simp only [knowsB, List.getD_eq_getElem?_getD, hx, Option.getD_some], hw.fr⟩)
def bitsTo (s k : Nat) : List Int := ((List.range k).filter fun i => s.testBit i).map fun i : Nat => (i : Int)
theorem bitsTo_snoc (s k : Nat) : bitsTo s (k + 1) = bitsTo s k ++ if s.testBit k then [(k : Int)] else [] := by
 unfold bitsTo; rw [List.range_succ, List.filter_append, List.map_append]
 congr 1
 cases h : s.testBit k <;> simp [h]
theorem bitsTo_len (s k : Nat) : (bitsTo s k).length ≤ k := by
 unfold bitsTo; rw [List.length_map]
 exact Nat.le_trans (List.length_filter_le _ _) (Nat.le_of_eq List.length_range)
theorem bitsTo_mem {s k : Nat} {p : Int} (h : p ∈ bitsTo s k) : 0 ≤ p ∧ p < k := by
 unfold bitsTo at h
 obtain ⟨i, hi, rfl⟩ := List.mem_map.1 h
 have := List.mem_range.1 (List.mem_filter.1 hi).1
 omega
def goodB (K : List (List Int)) (marks l : List Int) : Bool := marks.all fun m => l.any (knowsB K m)
def askS (K : List (List Int)) (marks : List Int) (q : List Int × Bool) (s : Nat) : List Int × Bool :=
 if q.2 && decide (q.1.length < popN s) then q else
 if !goodB K marks (bitsTo s K.length) then q else
 if (!q.2 || decide ((bitsTo s K.length).length < q.1.length)) || decide (cmpLI (bitsTo s K.length) q.1 < 0) then (bitsTo s K.length, true) else q
def askT (K : List (List Int)) (marks : List Int) : Nat → List Int × Bool
 | 0 => ([], false)
 | s + 1 => askS K marks (askT K marks s) s
def askB (K : List (List Int)) (marks : List Int) : List Int × Bool := if 12 < K.length then ([], false) else askT K marks (2 ^ K.length)
theorem askT_len (K : List (List Int)) (marks : List Int) : ∀ s, (askT K marks s).1.length ≤ K.length
 | 0 => by simp [askT]
 | s + 1 => by
  have ih := askT_len K marks s
  have hb := bitsTo_len s K.length
  unfold askT askS
  split
  ·exact ih
  ·split
   ·exact ih
   ·split
    ·exact hb
    ·exact ih
theorem ask_c (K : List (List Int)) (marks : List Int) (kv mv : Value) (w : World) (hK : SlOf (slT intT) [] w kv K) (hm : SlOf intT [] w mv marks) (hml : marks.length ≤ 1000000) :
  AnsR Tryz.prog 25 [kv, mv] [.row 3 1 ((askB K marks).1.map encI), .p (.c (.b (askB K marks).2))] w := by
 have hkn := hK.len
 have hmn := hm.len
 refine calls_plainB [.x kv, .x mv] Tryz.func25 rfl rfl (Nat.le_of_ble_eq_true rfl) rfl fun B hB => ?_
 repeat refine zq ?_
 refine zr ?_; conv => whnf
 refine ⟨hK.one, ?_⟩; conv => whnf
 intro b2; conv => whnf
 repeat refine zq ?_
 refine At.scope ?_
 repeat refine zq ?_
 refine zr ?_; conv => whnf
 refine ⟨hK.sl, ?_⟩; conv => whnf
 repeat refine zq ?_
 refine At.cond rfl (fun hq => ?_) (fun hq => At.skip ?_)
 ·have hbig : 12 < K.length := by have := of_decide_eq_true hq; omega
  have hres : askB K marks = ([], false) := by unfold askB; rw [if_pos hbig]
  repeat refine zq ?_
  refine zr ?_; conv => whnf
  repeat refine zq ?_
  refine At.ret (At.doneB tab_ok hB _ rfl fun w' hw => ?_)
  rw [hres]
  exact ⟨[.slice none 0 0], rfl, ⟨nil_holds, fun b hb => (by simp [blkOf] at hb), fun u hu => (by cases hu), rfl⟩, hw.fr⟩
 have hn : K.length ≤ 12 := by have := of_decide_eq_false hq; omega
 clear hq
 have hres : askB K marks = askT K marks (2 ^ K.length) := by unfold askB; rw [if_neg (by omega)]
 have h2n : (2 : Nat) ^ K.length ≤ 4096 := Nat.pow_le_pow_right (by decide) hn
 repeat refine zq ?_
 refine zr ?_; conv => whnf
 repeat refine zq ?_
 refine zr ?_; conv => whnf
 repeat refine zq ?_
 refine At.label ?_
 repeat refine zq ?_
 refine zr ?_; conv => whnf
 refine ⟨hK.sl, ?_⟩; conv => whnf
 have hsh : (1 : Int) * 2 ^ (slen kv).toNat = ((2 ^ K.length : Nat) : Int) := by rw [hkn, Int.toNat_natCast, Int.one_mul]; push_cast; rfl
 refine ⟨by omega, ?_⟩; conv => whnf
 refine ⟨by omega, ?_⟩; conv => whnf
 refine ⟨by rw [hsh]; generalize (2 : Nat) ^ K.length = y at h2n ⊢; exact ⟨by omega, by omega⟩, ?_⟩; conv => whnf
 repeat refine zq ?_
 refine At.block ?_
 refine At.loopH (fun p' : Nat × Value => { N := Tryz.f25.ntmps, sl := [(1, some (.x mv)), (2, some (.s (.c (.p 0 b2 0)))), (6, some (.s (.c (.o 1 p'.2)))), (7, some (.b ((askT K marks p'.1).2))), (18, some (.x ((.int .u64 ((2 ^ K.length : Nat) : Int))))), (19, some (.x ((.int .u64 (p'.1 : Int)))))], gl := [], hp := [(1, .row p'.2 3 1 ((askT K marks p'.1).1.map encI)), (0, .box b2 57 [.x kv])], S := [], ws := w }) (fun p' : Nat × Value => p'.1 ≤ 2 ^ K.length) (fun p' : Nat × Value => 2 ^ K.length - p'.1)
  (fun w' hw => ⟨(0, .slice none 0 0), Nat.zero_le _, Le.of rfl rfl ⟨rfl, rfl, rfl, rfl, congrArg (Value.int .u64) hsh, rfl, trivial⟩, hw.nil rfl rfl rfl, ⟨⟨_, _, rfl⟩, ⟨_, _, _, rfl⟩, trivial⟩, ⟨(nopI _).okH, trivial⟩⟩) ?_
 rintro ⟨s, vb⟩ hs
 simp only at hs ⊢
 have hql := askT_len K marks s
 have hst : askT K marks (s + 1) = askS K marks (askT K marks s) s := rfl
 generalize hqe : askT K marks s = q at hql hst ⊢
 repeat refine zq ?_
 refine zr ?_; conv => whnf
 repeat refine zq ?_
 refine At.cond rfl (fun hc => At.skip ?_) (fun hc => At.exit ?_)
 ·have hlt : s < 2 ^ K.length := by have := of_decide_eq_true hc; omega
  have hbl := bitsTo_len s K.length
  have hmeas : 2 ^ K.length - (s + 1) < 2 ^ K.length - s := by omega
  have hinU : inU ((s : Int) + 1) := ⟨by omega, by omega⟩
  repeat refine zq ?_
  refine At.block ?_
  repeat refine zq ?_
  refine zr ?_; conv => whnf
  repeat refine zq ?_
  refine zr ?_; conv => whnf
  refine ⟨.i (popN s), gimp_of (ans_quiet b58 (fun w' _ => ones_c s (by omega) w')), ?_⟩; conv => whnf
  refine ⟨by simp only [gimp]; intros; trivial, ?_⟩; conv => whnf
  repeat refine zq ?_
  refine At.cond rfl (fun hq => ?_) (fun hq => At.skip ?_)
  ·have hskip : (q.2 && decide (q.1.length < popN s)) = true := by simpa [band] using hq
   have hst' : askS K marks q s = q := by unfold askS; rw [if_pos hskip]
   rw [hst'] at hst
   refine At.exit ?_
   repeat refine zq ?_
   refine zr ?_; conv => whnf
   refine ⟨hinU, ?_⟩; conv => whnf
   refine At.nextH fun w' hw => ⟨(s + 1, vb), by simp only; omega, hmeas, Le.of rfl rfl ⟨rfl, rfl, rfl, congrArg Value.bool (by simp only [hst]), rfl, rfl, trivial⟩, hw.keep [1, 0] (by simp only [hst]; rfl) rfl rfl, ⟨⟨_, _, rfl⟩, ⟨_, _, _, rfl⟩, trivial⟩, ⟨(nopI _).okH, trivial⟩⟩
  have hskip : ¬ (q.2 && decide (q.1.length < popN s)) = true := by simpa [band] using hq
  clear hq
  repeat refine zq ?_
  refine zr ?_; conv => whnf
  repeat refine zq ?_
  refine zr ?_; conv => whnf
  refine ⟨hK.sl, ?_⟩; conv => whnf
  repeat refine zq ?_
  refine At.block ?_
  refine At.loopH (fun p' : Nat × Value => { N := Tryz.f25.ntmps, sl := [(1, some (.x mv)), (2, some (.s (.c (.p 0 b2 0)))), (6, some (.s (.c (.o 1 vb)))), (7, some (.b q.2)), (18, some (.x ((.int .u64 ((2 ^ K.length : Nat) : Int))))), (19, some (.x ((.int .u64 (s : Int))))), (8, some (.x ((.int .u64 (s : Int))))), (9, some (.s (.c (.o 2 p'.2)))), (31, some (.i K.length)), (32, some (.i p'.1))], gl := [], hp := [(2, .row p'.2 3 1 ((bitsTo s p'.1).map encI)), (1, .row vb 3 1 (q.1.map encI)), (0, .box b2 57 [.x kv])], S := [], ws := w }) (fun p' : Nat × Value => p'.1 ≤ K.length) (fun p' : Nat × Value => K.length - p'.1)
   (fun w' hw => ⟨(0, .slice none 0 0), Nat.zero_le _, Le.of rfl rfl ⟨rfl, rfl, rfl, rfl, rfl, rfl, rfl, rfl, congrArg (Value.int .i64) hkn, rfl, trivial⟩, hw.nil rfl rfl rfl, ⟨⟨_, _, rfl⟩, ⟨_, _, _, rfl⟩, ⟨_, _, _, rfl⟩, trivial⟩, ⟨(nopI _).okH, (nopI _).okH, trivial⟩⟩) ?_
  rintro ⟨k, vl⟩ hk
  simp only at hk ⊢
  repeat refine zq ?_
  refine zr ?_; conv => whnf
  repeat refine zq ?_
  refine At.cond rfl (fun hc => At.skip ?_) (fun hc => At.exit ?_)
  ·have hkl : k < K.length := by have := of_decide_eq_true hc; omega
   have hbit : decide (andU ((s : Int) / 2 ^ (k : Int).toNat) 1 = 1) = s.testBit k := by rw [Int.toNat_natCast]; exact bit_eq s k
   have hsn := bitsTo_snoc s k
   have hbk := bitsTo_len s k
   have hdv : (s : Int) / 2 ^ (k : Int).toNat = ((s / 2 ^ k : Nat) : Int) := by rw [Int.toNat_natCast]; push_cast; rfl
   have hdl : s / 2 ^ k ≤ s := Nat.div_le_self _ _
   repeat refine zq ?_
   refine At.block ?_
   repeat refine zq ?_
   refine zr ?_; conv => whnf
   repeat refine zq ?_
   refine zr ?_; conv => whnf
   refine ⟨by omega, ?_⟩; conv => whnf
   refine ⟨by omega, ?_⟩; conv => whnf
   refine ⟨by omega, ?_⟩; conv => whnf
   refine ⟨by rw [hdv]; generalize s / 2 ^ k = y at hdl ⊢; exact ⟨by omega, by omega⟩, ?_⟩; conv => whnf
   refine ⟨⟨by decide, by decide⟩, ?_⟩; conv => whnf
   repeat refine zq ?_
   refine At.cond rfl (fun hq => ?_) (fun hq => At.skip ?_)
   ·rw [hbit] at hq
    rw [hq, if_pos rfl] at hsn
    repeat refine zq ?_
    refine zr ?_; conv => whnf
    intro v4; conv => whnf
    refine ⟨rfl, ?_⟩; conv => whnf
    refine ⟨⟨rfl, by simp; omega⟩, ?_⟩; conv => whnf
    intro v5; conv => whnf
    repeat refine zq ?_
    refine zr ?_; conv => whnf
    refine ⟨⟨by omega, by omega⟩, ?_⟩; conv => whnf
    refine At.nextH fun w' hw => ⟨(k + 1, v5), by simp only; omega, by simp only; omega, Le.of rfl rfl ⟨rfl, rfl, rfl, rfl, rfl, rfl, rfl, rfl, rfl, rfl, trivial⟩, hw.keep [2, 1, 0] ?_ rfl rfl, ⟨⟨_, _, rfl⟩, ⟨_, _, _, rfl⟩, ⟨_, _, _, rfl⟩, trivial⟩, ⟨(nopI _).okH, (nopI _).okH, trivial⟩⟩
    show [(2, LO.row v5 3 1 _), (1, LO.row vb 3 1 _), (0, LO.box b2 57 _)] = [(2, LO.row v5 3 1 _), (1, LO.row vb 3 1 _), (0, LO.box b2 57 _)]
    rw [hsn, List.map_append]
    rfl
   ·rw [hbit] at hq
    rw [hq, if_neg (by decide), List.append_nil] at hsn
    repeat refine zq ?_
    refine zr ?_; conv => whnf
    refine ⟨⟨by omega, by omega⟩, ?_⟩; conv => whnf
    refine At.nextH fun w' hw => ⟨(k + 1, vl), by simp only; omega, by simp only; omega, Le.of rfl rfl ⟨rfl, rfl, rfl, rfl, rfl, rfl, rfl, rfl, rfl, rfl, trivial⟩, hw.keep [2, 1, 0] (by simp only [hsn]; rfl) rfl rfl, ⟨⟨_, _, rfl⟩, ⟨_, _, _, rfl⟩, ⟨_, _, _, rfl⟩, trivial⟩, ⟨(nopI _).okH, (nopI _).okH, trivial⟩⟩
  ·have hge : k = K.length := by have := of_decide_eq_false hc; omega
   subst hge
   repeat refine zq ?_
   refine zr ?_; conv => whnf
   refine ⟨hm.sl, ?_⟩; conv => whnf
   repeat refine zq ?_
   refine At.block ?_
   refine At.loopH (fun j : Nat => { N := Tryz.f25.ntmps, sl := [(1, some (.x mv)), (2, some (.s (.c (.p 0 b2 0)))), (6, some (.s (.c (.o 1 vb)))), (7, some (.b q.2)), (18, some (.x ((.int .u64 ((2 ^ K.length : Nat) : Int))))), (19, some (.x ((.int .u64 (s : Int))))), (9, some (.s (.c (.o 2 vl)))), (45, some (.x mv)), (46, some (.i marks.length)), (47, some (.i j))], gl := [], hp := [(2, .row vl 3 1 ((bitsTo s K.length).map encI)), (1, .row vb 3 1 (q.1.map encI)), (0, .box b2 57 [.x kv])], S := [], ws := w }) (fun j : Nat => j ≤ marks.length ∧ ∀ (i : Nat) m, i < j → marks[i]? = some m → (bitsTo s K.length).any (knowsB K m) = true) (fun j : Nat => marks.length - j)
    (fun w' hw => ⟨0, ⟨Nat.zero_le _, fun i m hi => by omega⟩, Le.of rfl rfl ⟨rfl, rfl, rfl, rfl, rfl, rfl, rfl, rfl, congrArg (Value.int .i64) hmn, rfl, trivial⟩, hw.keep [2, 1, 0] rfl rfl rfl, ⟨⟨_, _, rfl⟩, ⟨_, _, _, rfl⟩, ⟨_, _, _, rfl⟩, trivial⟩, ⟨(nopI _).okH, (nopI _).okH, trivial⟩⟩) ?_
   rintro j ⟨hj, hall⟩
   repeat refine zq ?_
   refine zr ?_; conv => whnf
   repeat refine zq ?_
   refine At.cond rfl (fun hc => At.skip ?_) (fun hc => At.exit ?_)
   ·have hjl : j < marks.length := by have := of_decide_eq_true hc; omega
    obtain ⟨m, hm'⟩ : ∃ m, marks[j]? = some m := ⟨_, List.getElem?_eq_getElem hjl⟩
    repeat refine zq ?_
    refine At.block ?_
    repeat refine zq ?_
    refine zr ?_; conv => whnf
    refine ⟨by omega, ?_⟩; conv => whnf
    refine ⟨by omega, ?_⟩; conv => whnf
    refine ⟨[.i m], fun w' hw => hm.load (n := 1) hw.fr hm' rfl, ?_⟩; conv => whnf
    intro b12; conv => whnf
    repeat refine zq ?_
    refine zr ?_; conv => whnf
    refine ans_call b59 rfl (fun w' hw => containsF_c (bitsTo s K.length) [] vl w' (SlOf.of_row (enc := fun n => [.i n]) (hw.row (id := 2) rfl) (fun _ _ => nilS) (by omega)) 60 #[ptr b2, ptr b12] (knowsB K m) b60 (fun p hp w'' hx => ask1_c K kv b2 b12 m p w'' ((hK.fr hw.fr).ext hx) (box_v (T := 57) ((hx.block b2 (Array.getElem?_eq_some_iff.1 (hw.box (id := 0) rfl)).1 nilS).trans (hw.box (id := 0) rfl)) nilS) (box_i (T := 3) ((hx.block b12 (Array.getElem?_eq_some_iff.1 (hw.box (id := 3) rfl)).1 nilS).trans (hw.box (id := 3) rfl)) nilS) (bitsTo_mem hp).1 (bitsTo_mem hp).2)) ?_; conv => whnf
    repeat refine zq ?_
    refine At.cond rfl (fun hq => ?_) (fun hq => At.skip ?_)
    ·have hany : (bitsTo s K.length).any (knowsB K m) = false := by simpa using hq
     have hbad : goodB K marks (bitsTo s K.length) = false := by unfold goodB; rw [List.all_eq_false]; exact ⟨m, List.mem_of_getElem? hm', by rw [hany]; decide⟩
     have hst' : askS K marks q s = q := by unfold askS; rw [if_neg hskip, if_pos (by rw [hbad]; rfl)]
     rw [hst'] at hst
     refine At.exit ?_
     repeat refine zq ?_
     refine zr ?_; conv => whnf
     refine ⟨hinU, ?_⟩; conv => whnf
     refine At.nextH fun w' hw => ⟨(s + 1, vb), by simp only; omega, hmeas, Le.of rfl rfl ⟨rfl, rfl, rfl, congrArg Value.bool (by simp only [hst]), rfl, rfl, trivial⟩, hw.keep [1, 0] (by simp only [hst]; rfl) rfl rfl, ⟨⟨_, _, rfl⟩, ⟨_, _, _, rfl⟩, trivial⟩, ⟨(nopI _).okH, trivial⟩⟩
    ·have hany : (bitsTo s K.length).any (knowsB K m) = true := by simpa using hq
     repeat refine zq ?_
     refine zr ?_; conv => whnf
     refine ⟨⟨by omega, by omega⟩, ?_⟩; conv => whnf
     refine At.nextH fun w' hw => ⟨j + 1, ⟨by omega, fun i m' hi hmi => by rcases Nat.lt_or_ge i j with hi' | hi'; exact hall i m' hi' hmi; obtain rfl : i = j := (by omega); rw [hm'] at hmi; cases hmi; exact hany⟩, by omega, Le.of rfl rfl ⟨rfl, rfl, rfl, rfl, rfl, rfl, rfl, rfl, rfl, rfl, trivial⟩, hw.keep [2, 1, 0] rfl rfl rfl, ⟨⟨_, _, rfl⟩, ⟨_, _, _, rfl⟩, ⟨_, _, _, rfl⟩, trivial⟩, ⟨(nopI _).okH, (nopI _).okH, trivial⟩⟩
   ·have hge : j = marks.length := by have := of_decide_eq_false hc; omega
    subst hge
    have hgood : goodB K marks (bitsTo s K.length) = true := by
     unfold goodB; rw [List.all_eq_true]
     intro m hmm
     obtain ⟨i, hi⟩ := List.getElem?_of_mem hmm
     exact hall i m (List.getElem?_eq_some_iff.1 hi).1 hi
    repeat refine zq ?_
    refine zr ?_; conv => whnf
    refine ⟨by simp only [gimp]; intros; trivial, ?_⟩; conv => whnf
    refine ⟨by simp only [gimp]; intros; trivial, ?_⟩; conv => whnf
    refine ⟨.i (cmpLI (bitsTo s K.length) q.1), gimp_of (ans_quiet b62 (fun w' hw => cmpL_c (bitsTo s K.length) q.1 [] [] vl vb w' (SlOf.of_row (enc := fun n => [.i n]) (hw.row (id := 2) rfl) (fun _ _ => nilS) (by omega)) (SlOf.of_row (enc := fun n => [.i n]) (hw.row (id := 1) rfl) (fun _ _ => nilS) (by omega)))), ?_⟩; conv => whnf
    repeat refine zq ?_
    refine At.cond rfl (fun hq => ?_) (fun hq => At.skip ?_)
    ·have hup : ((!q.2 || decide ((bitsTo s K.length).length < q.1.length)) || decide (cmpLI (bitsTo s K.length) q.1 < 0)) = true := by simpa [bor] using hq
     have hst' : askS K marks q s = (bitsTo s K.length, true) := by unfold askS; rw [if_neg hskip, if_neg (by rw [hgood]; decide), if_pos hup]
     rw [hst'] at hst
     repeat refine zq ?_
     refine zr ?_; conv => whnf
     repeat refine zq ?_
     refine zr ?_; conv => whnf
     refine ⟨hinU, ?_⟩; conv => whnf
     refine At.nextH fun w' hw => ⟨(s + 1, vl), by simp only; omega, hmeas, Le.of rfl rfl ⟨rfl, rfl, rfl, congrArg Value.bool (by simp only [hst]), rfl, rfl, trivial⟩, hw.ren [2,0] ((by simp only [hst]; rfl)) rfl rfl, ⟨⟨_, _, rfl⟩, ⟨_, _, _, rfl⟩, trivial⟩, ⟨(nopI _).okH, trivial⟩⟩
    ·have hup : ¬ ((!q.2 || decide ((bitsTo s K.length).length < q.1.length)) || decide (cmpLI (bitsTo s K.length) q.1 < 0)) = true := by simpa [bor] using hq
     have hst' : askS K marks q s = q := by unfold askS; rw [if_neg hskip, if_neg (by rw [hgood]; decide), if_neg hup]
     rw [hst'] at hst
     repeat refine zq ?_
     refine zr ?_; conv => whnf
     refine ⟨hinU, ?_⟩; conv => whnf
     refine At.nextH fun w' hw => ⟨(s + 1, vb), by simp only; omega, hmeas, Le.of rfl rfl ⟨rfl, rfl, rfl, congrArg Value.bool (by simp only [hst]), rfl, rfl, trivial⟩, hw.keep [1, 0] (by simp only [hst]; rfl) rfl rfl, ⟨⟨_, _, rfl⟩, ⟨_, _, _, rfl⟩, trivial⟩, ⟨(nopI _).okH, trivial⟩⟩
 ·have hge : s = 2 ^ K.length := by have := of_decide_eq_false hc; omega
  subst hge
  repeat refine zq ?_
  refine zr ?_; conv => whnf
  repeat refine zq ?_
  refine At.ret (At.doneB tab_ok hB _ rfl fun w' hw => ?_)
  rw [hres, hqe]
  exact ⟨[vb], rfl, ⟨hw.row (id := 1) rfl, fun b hb => (hw.fresh (id := 1) rfl b hb).elim (fun h => by cases h) _root_.id, fun u hu => (by cases hu), rfl⟩, hw.fr⟩
end Go.Proofs.YtlobacpdhglnkaaGreatDoor
namespace Go.Proofs.YtlobacpdhglnkaaGreatDoor
open Go.Vc Rt Go.Bs
end Go.Proofs.YtlobacpdhglnkaaGreatDoor
namespace Go.Proofs.YtlobacpdhglnkaaGreatDoor
open Go.Vc Rt Go.Bs
set_option maxHeartbeats 1000000
end Go.Proofs.YtlobacpdhglnkaaGreatDoor
namespace Go.Proofs
open Go.Shelf
def Tryz.keysA_ren : Go.Shelf.Ren := ⟨fun | 7 => 57 | 10 => 104 | n => n, fun | 23 => 98 | 26 => 3 | 3 => 4 | 28 => 107 | 0 => 0 | 27 => 106 | 33 => 91 | 4 => 4 | n => n, fun | n => n⟩
theorem Tryz.keysA : Go.Proofs.SlLaysZI.n7 Tryz.prog Tryz.keysA_ren := {
 mixed := by kernel_rfl
 f7 := ⟨Tryz.f57.name, by decide, Tryz.func57.trans (congrArg some (by kernel_rfl))⟩
 f10 := ⟨Tryz.f104.name, by decide, Tryz.func104.trans (congrArg some (by kernel_rfl))⟩
 t0 := Tryz.underlying0
 a0 := Tryz.isAgg0
 z0 := Tryz.sizeOf0
 v0 := Tryz.zeroValue0
 t4 := Tryz.underlying4
 a4 := Tryz.isAgg4
 z4 := Tryz.sizeOf4
 v4 := Tryz.zeroValue4
 t23 := Tryz.underlying98
 a23 := Tryz.isAgg98
 z23 := Tryz.sizeOf98
 v23 := Tryz.zeroValue98
 t26 := Tryz.underlying3
 a26 := Tryz.isAgg3
 z26 := Tryz.sizeOf3
 v26 := Tryz.zeroValue3
 t27 := Tryz.underlying106
 a27 := Tryz.isAgg106
 z27 := Tryz.sizeOf106
 v27 := Tryz.zeroValue106
 t28 := Tryz.underlying107
 a28 := Tryz.isAgg107
 z28 := Tryz.sizeOf107
 v28 := Tryz.zeroValue107
 t33 := Tryz.underlying91
 a33 := Tryz.isAgg91
 z33 := Tryz.sizeOf91
 v33 := Tryz.zeroValue91 }
def Tryz.sortedA_ren : Go.Shelf.Ren := ⟨fun | 6 => 56 | 8 => 103 | 9 => 39 | 11 => 157 | 13 => 90 | 12 => 89 | 23 => 138 | 24 => 139 | 14 => 129 | 15 => 130 | 16 => 131 | 17 => 132 | 18 => 133 | 19 => 134 | 20 => 135 | 21 => 136 | 22 => 137 | 25 => 183 | 26 => 184 | 27 => 185 | 28 => 186 | 29 => 187 | 30 => 128 | 31 => 204 | n => n, fun | 26 => 3 | 28 => 107 | 24 => 22 | 0 => 0 | 3 => 3 | 37 => 109 | 48 => 158 | 50 => 160 | 4 => 4 | 40 => 174 | 39 => 173 | 45 => 82 | 5 => 5 | 9 => 9 | 51 => 201 | 55 => 205 | 57 => 221 | 58 => 222 | 33 => 91 | n => n, fun | n => n⟩
theorem Tryz.sortedA : Go.Proofs.SlLaysZI.n6 Tryz.prog Tryz.sortedA_ren := {
 mixed := by kernel_rfl
 f6 := ⟨Tryz.f56.name, by decide, Tryz.func56.trans (congrArg some (by kernel_rfl))⟩
 f8 := ⟨Tryz.f103.name, by decide, Tryz.func103.trans (congrArg some (by kernel_rfl))⟩
 f11 := ⟨Tryz.f157.name, by decide, Tryz.func157.trans (congrArg some (by kernel_rfl))⟩
 t0 := Tryz.underlying0
 a0 := Tryz.isAgg0
 z0 := Tryz.sizeOf0
 v0 := Tryz.zeroValue0
 t24 := Tryz.underlying22
 a24 := Tryz.isAgg22
 z24 := Tryz.sizeOf22
 v24 := Tryz.zeroValue22
 t26 := Tryz.underlying3
 a26 := Tryz.isAgg3
 z26 := Tryz.sizeOf3
 v26 := Tryz.zeroValue3
 t28 := Tryz.underlying107
 a28 := Tryz.isAgg107
 z28 := Tryz.sizeOf107
 v28 := Tryz.zeroValue107
 i26 := by kernel_rfl }
def Tryz.sortA_ren : Go.Shelf.Ren := ⟨fun | 5 => 39 | 8 => 90 | 7 => 89 | 19 => 138 | 20 => 139 | 10 => 129 | 11 => 130 | 12 => 131 | 13 => 132 | 14 => 133 | 15 => 134 | 16 => 135 | 17 => 136 | 18 => 137 | 30 => 183 | 31 => 184 | 32 => 185 | 33 => 186 | 34 => 187 | 35 => 128 | 40 => 204 | n => n, fun | 23 => 22 | 25 => 3 | 3 => 3 | 32 => 109 | 22 => 22 | 0 => 0 | 44 => 158 | 46 => 160 | 4 => 4 | 36 => 174 | 35 => 173 | 41 => 82 | 5 => 5 | 9 => 9 | 53 => 201 | 57 => 205 | 63 => 221 | 64 => 222 | n => n, fun | n => n⟩
theorem Tryz.sortA : Go.Proofs.SlLaysM.n5 Tryz.prog Tryz.sortA_ren := {
 mixed := by kernel_rfl
 f5 := ⟨Tryz.f39.name, by decide, Tryz.func39.trans (congrArg some (by kernel_rfl))⟩
 f7 := ⟨Tryz.f89.name, by decide, Tryz.func89.trans (congrArg some (by kernel_rfl))⟩
 f8 := Tryz.func90.trans (congrArg some (by kernel_rfl))
 f10 := ⟨Tryz.f129.name, by decide, Tryz.func129.trans (congrArg some (by kernel_rfl))⟩
 f11 := ⟨Tryz.f130.name, by decide, Tryz.func130.trans (congrArg some (by kernel_rfl))⟩
 f12 := ⟨Tryz.f131.name, by decide, Tryz.func131.trans (congrArg some (by kernel_rfl))⟩
 f13 := ⟨Tryz.f132.name, by decide, Tryz.func132.trans (congrArg some (by kernel_rfl))⟩
 f14 := ⟨Tryz.f133.name, by decide, Tryz.func133.trans (congrArg some (by kernel_rfl))⟩
 f15 := ⟨Tryz.f134.name, by decide, Tryz.func134.trans (congrArg some (by kernel_rfl))⟩
 f16 := ⟨Tryz.f135.name, by decide, Tryz.func135.trans (congrArg some (by kernel_rfl))⟩
 f17 := ⟨Tryz.f136.name, by decide, Tryz.func136.trans (congrArg some (by kernel_rfl))⟩
 f18 := ⟨Tryz.f137.name, by decide, Tryz.func137.trans (congrArg some (by kernel_rfl))⟩
 f19 := Tryz.func138.trans (congrArg some (by kernel_rfl))
 f20 := Tryz.func139.trans (congrArg some (by kernel_rfl))
 f30 := ⟨Tryz.f183.name, by decide, Tryz.func183.trans (congrArg some (by kernel_rfl))⟩
 f31 := Tryz.func184.trans (congrArg some (by kernel_rfl))
 f32 := Tryz.func185.trans (congrArg some (by kernel_rfl))
 f33 := ⟨Tryz.f186.name, by decide, Tryz.func186.trans (congrArg some (by kernel_rfl))⟩
 f34 := ⟨Tryz.f187.name, by decide, Tryz.func187.trans (congrArg some (by kernel_rfl))⟩
 f35 := ⟨Tryz.f128.name, by decide, Tryz.func128.trans (congrArg some (by kernel_rfl))⟩
 f40 := ⟨Tryz.f204.name, by decide, Tryz.func204.trans (congrArg some (by kernel_rfl))⟩
 t0 := Tryz.underlying0
 a0 := Tryz.isAgg0
 z0 := Tryz.sizeOf0
 v0 := Tryz.zeroValue0
 t3 := Tryz.underlying3
 a3 := Tryz.isAgg3
 z3 := Tryz.sizeOf3
 v3 := Tryz.zeroValue3
 t4 := Tryz.underlying4
 a4 := Tryz.isAgg4
 z4 := Tryz.sizeOf4
 v4 := Tryz.zeroValue4
 t5 := Tryz.underlying5
 a5 := Tryz.isAgg5
 z5 := Tryz.sizeOf5
 v5 := Tryz.zeroValue5
 t9 := Tryz.underlying9
 a9 := Tryz.isAgg9
 z9 := Tryz.sizeOf9
 v9 := Tryz.zeroValue9
 t22 := Tryz.underlying22
 a22 := Tryz.isAgg22
 z22 := Tryz.sizeOf22
 v22 := Tryz.zeroValue22
 t23 := Tryz.underlying22
 a23 := Tryz.isAgg22
 z23 := Tryz.sizeOf22
 v23 := Tryz.zeroValue22
 t25 := Tryz.underlying3
 a25 := Tryz.isAgg3
 z25 := Tryz.sizeOf3
 v25 := Tryz.zeroValue3
 t32 := Tryz.underlying109
 a32 := Tryz.isAgg109
 z32 := Tryz.sizeOf109
 v32 := Tryz.zeroValue109
 t35 := Tryz.underlying173
 a35 := Tryz.isAgg173
 z35 := Tryz.sizeOf173
 v35 := Tryz.zeroValue173
 t36 := Tryz.underlying174
 a36 := Tryz.isAgg174
 z36 := Tryz.sizeOf174
 v36 := Tryz.zeroValue174
 t41 := Tryz.underlying82
 a41 := Tryz.isAgg82
 z41 := Tryz.sizeOf82
 v41 := Tryz.zeroValue82
 t44 := Tryz.underlying158
 a44 := Tryz.isAgg158
 z44 := Tryz.sizeOf158
 v44 := Tryz.zeroValue158
 t46 := Tryz.underlying160
 a46 := Tryz.isAgg160
 z46 := Tryz.sizeOf160
 v46 := Tryz.zeroValue160
 t53 := Tryz.underlying201
 a53 := Tryz.isAgg201
 z53 := Tryz.sizeOf201
 v53 := Tryz.zeroValue201
 t57 := Tryz.underlying205
 a57 := Tryz.isAgg205
 z57 := Tryz.sizeOf205
 v57 := Tryz.zeroValue205
 t63 := Tryz.underlying221
 a63 := Tryz.isAgg221
 z63 := Tryz.sizeOf221
 v63 := Tryz.zeroValue221
 t64 := Tryz.underlying222
 a64 := Tryz.isAgg222
 z64 := Tryz.sizeOf222
 v64 := Tryz.zeroValue222 }
end Go.Proofs
namespace Go.Proofs.YtlobacpdhglnkaaGreatDoor
open Go.Vc Rt Go.Bs
def vB (b : Bool) : Value := .bool b
theorem u4 : Tryz.prog.underlying 4 = some .bool := by kernel_rfl
theorem um85 : Tryz.prog.underlying 98 = some (.map 3 4) := by kernel_rfl
theorem z4 (w : World) : (zeroValue 4).run Tryz.prog w = .ok (CV.b false).den w := by kernel_rfl
theorem wf_i64 {n : Int} (h : iR n) : (Lit.int IntKind.i64 n).wf = true := by
 have h1 : (IntKind.i64).min = -9223372036854775808 := by decide
 have h2 : (IntKind.i64).max = 9223372036854775807 := by decide
 simp only [Lit.wf, h1, h2, Bool.and_eq_true, decide_eq_true_eq]; exact h
theorem sortsA (m : Nat) : AnyZI.SortsIn Tryz.prog Tryz.sortedA_ren Fence.wide m :=
 ⟨fun blk off cap ss W hH hblk hsz => callsIn_wide.2 (AnyM.slices_Sort_int Tryz.sortA blk off cap ss W hH hblk hsz),
  fun p cap W => callsIn_wide.2 (AnyM.slices_Sort_int_none Tryz.sortA p cap W)⟩
theorem insert_perm {H : Type} (x : Lit × DataW H) : ∀ l : List (Lit × DataW H), (DataW.insert x l).Perm (x :: l)
 | [] => .refl _
 | y :: r => by
  unfold DataW.insert
  split
  ·exact .refl _
  ·exact ((insert_perm x r).cons y).trans (.swap ..)
theorem foldr_insert_perm {H : Type} : ∀ l : List (Lit × DataW H), (l.foldr DataW.insert []).Perm l
 | [] => .refl _
 | x :: r => (insert_perm x _).trans ((foldr_insert_perm r).cons x)
theorem rg_val {H : Type} {x : MapEntry} {n : Int} {b : Bool} (hk : x.key = .int .i64 n) (hv : x.val = .bool b) (hn : iR n) : Go.WideElems.rd (H := H) Tryz.prog 3 (plainElem Tryz.prog 4) x = some (.int .i64 n, .lit (.bool b)) := by
 unfold Go.WideElems.rd
 rw [hk, hv, Maps.keyOf_int_mk u3 (wf_i64 hn), plainElem_bool u4]
 rfl
theorem owns_of {H : Type} {w : World} {m : Nat} {L : List (Int × Bool)} (h : MapAt vI vB w m L) (hL : ∀ p ∈ L, iR p.1) (hl : L.length ≤ 1000000) : ∃ D : DataW H, _root_.Go.World.ownsMap w Tryz.prog 3 (plainElem Tryz.prog 4) m L.length D ∧ (_root_.Go.intKeys D).Perm (L.map (·.1)) ∧ Maps.size D = L.length := by
 obtain ⟨es, clock, h1, h2, h3⟩ := h
 have hsz : es.size = L.length := by have := congrArg List.length h3; simpa using this
 have hget : ∀ x ∈ es.toList, ∃ p ∈ L, x.key = .int .i64 p.1 ∧ x.val = .bool p.2 := fun x hx => by
  obtain ⟨j, hj⟩ := List.getElem?_of_mem hx
  obtain ⟨p, hp, e1, e2⟩ := entry_get h3 hj
  exact ⟨p, List.mem_of_getElem? hp, e1, e2⟩
 have hrd : ∀ x ∈ es.toList, ∃ p ∈ L, x.key = .int .i64 p.1 ∧ Go.WideElems.rd (H := H) Tryz.prog 3 (plainElem Tryz.prog 4) x = some (.int .i64 p.1, .lit (.bool p.2)) := fun x hx => by
  obtain ⟨p, hp, e1, e2⟩ := hget x hx
  exact ⟨p, hp, e1, rg_val e1 e2 (hL p hp)⟩
 have hkeys : (es.toList.map (Go.WideElems.rg (H := H) Tryz.prog 3 (plainElem Tryz.prog 4))).map (fun p => _root_.Go.intOf p.1) = L.map (·.1) := by
  have e1 : L.map (·.1) = es.toList.map (fun x => match x.key with | .int _ n => n | _ => 0) := by
   have := congrArg (List.map (fun p : Value × Value => match p.1 with | .int _ n => n | _ => 0)) h3
   simp only [List.map_map] at this
   rw [show (L.map (·.1)) = L.map ((fun p : Value × Value => match p.1 with | .int _ n => n | _ => 0) ∘ fun p => (vI p.1, vB p.2)) from List.map_congr_left fun p _ => rfl, ← this]
   exact List.map_congr_left fun x _ => rfl
  rw [e1, List.map_map]
  refine List.map_congr_left fun x hx => ?_
  obtain ⟨p, hp, e2, e3⟩ := hrd x hx
  simp only [Function.comp_apply, Go.WideElems.rg, e3, Option.getD_some, e2, _root_.Go.intOf]
 refine ⟨.map ((es.toList.map (Go.WideElems.rg Tryz.prog 3 (plainElem Tryz.prog 4))).foldr DataW.insert []), ⟨es, clock, h1, ⟨by rw [hsz]; unfold maxLen; omega, h2, fun x hx => by obtain ⟨p, _, _, e⟩ := hrd x hx; exact ⟨_, e⟩⟩, Nat.le_of_eq hsz, rfl⟩, ?_, ?_⟩
 ·rw [← hkeys]
  exact (foldr_insert_perm _).map _
 ·show (List.foldr DataW.insert [] _).length = _
  rw [(foldr_insert_perm _).length_eq, List.length_map, Array.length_toList, hsz]
theorem mapKeys_c (m : Nat) (w : World) : Calls Tryz.prog 57 #[.map (some m)] w (fun e w' => ∃ b, e = .returned (.func (.func 104) #[] #[ptr b]) ∧ w'.heap[b]? = some (.cells #[.map (some m)] 98 (0, 0)) ∧ w.heap.size ≤ b ∧ Ext w w') := by
 have h : CallsIn Fence.wide 5 Tryz.prog 57 #[.map (some m)] w fun e w' => e = .returned (.func (.func 104) #[] #[.pointer (some ⟨w.heap.size, 0, none⟩)]) ∧ w' = w.alloc (.cells #[.map (some m)] 98) := AnyZI.keys_in Tryz.keysA Fence.wide 5 trivial rfl (some m) w
 refine (callsIn_wide.1 h).mono ?_
 rintro e w' ⟨rfl, rfl⟩
 refine ⟨w.heap.size, rfl, ?_, Nat.le_refl _, (Fr.refl [] w).alloc _⟩
 show (w.heap.push _)[w.heap.size]? = _
 simp
theorem sorted_c (m b : Nat) (L : List (Int × Bool)) (w : World) (h : MapAt vI vB w m L) (hL : ∀ p ∈ L, iR p.1) (hl : L.length ≤ 1000000) (hb : SlOf vT1 [] w (hs b) [.map (some m)]) :
  AnsR Tryz.prog 56 [.func (.func 104) #[] #[ptr b]] [.row 3 1 ((sortI (L.map (·.1))).map encI)] w := by
 obtain ⟨D, hown, hperm, hsz⟩ := owns_of (H := Unit) h hL hl
 have hlt : b < w.heap.size := (hb.av _ _ _ rfl (by simp)).2
 have hcell : w.cell? ⟨b, 0, none⟩ = some (.map (some m)) := by
  obtain ⟨l, h1, h2⟩ := hb.elem 0 _ rfl
  cases h1
  exact h2 _ _ _ rfl 0 _ rfl
 have hseq : SeqGives Fence.wide 2 Tryz.prog 104 #[.pointer (some ⟨b, 0, none⟩)] encZ (fun ss => ss.Perm (_root_.Go.intKeys D)) (Maps.size D) w := AnyZI.keys_gives (ρ := Tryz.keysA_ren) { Tryz.keysA with } Fence.wide _ trivial rfl (by omega) b m L.length D w hlt hcell hown
 have cS := AnyZI.sorted_in Tryz.sortedA Fence.wide 5 trivial trivial trivial trivial rfl (by omega) (sortsA _) (enters_of Tryz.func39 (by kernel_rfl) rfl) 104 #[.pointer (some ⟨b, 0, none⟩)] trivial (enters_of Tryz.func104 (by kernel_rfl) rfl) _ _ (by rw [hsz]; unfold maxLen; omega) (by rw [hsz]; omega) w hseq
 change CallsIn _ _ Tryz.prog 56 _ _ _ at cS
 refine (callsIn_wide.1 cS).mono ?_
 rintro e w' ⟨v, ss, rfl, hS, hrow, hnil, hbel⟩
 have hp : ss.Perm (L.map (·.1)) := hS.trans hperm
 have hso : ss.mergeSort (fun x y => decide (x ≤ y)) = sortI (L.map (·.1)) := mergeSort_of_perm_i hp
 have hln : ss.length = (sortI (L.map (·.1))).length := by rw [sortI_len, hp.length_eq]
 rw [hso, hln] at hrow
 obtain ⟨hr1, hr2⟩ := hrow
 refine ⟨[v], rfl, ⟨⟨⟨by rw [densI]; simp, ?_⟩, fun l hl => by obtain ⟨x, _, rfl⟩ := List.mem_map.1 hl; rfl⟩, fun x hx => ?_, fun u hu => (by cases hu), rfl⟩, Ext.of_below hbel⟩
 ·rcases hr2 with ⟨e1, e2⟩ | ⟨g, cap, cur, e1, hg, hh, hc1, hc2, hc3, hc4⟩
  ·exact .inl ⟨e1, by rw [List.length_map]; exact e2⟩
  ·refine .inr ⟨g, 0, cap, cur, by rw [List.length_map]; exact e1, hh, by rw [List.length_map]; exact hc1, hc2, by omega, ?_⟩
   rw [densI, List.drop_zero, List.length_map]
   exact hc4
 ·rcases hr2 with ⟨e1, e2⟩ | ⟨g, cap, cur, e1, hg, hh, hc1, hc2, hc3, hc4⟩
  ·rw [e1] at hx; simp [blkOf] at hx
  ·rw [e1] at hx
   simp only [blkOf, List.mem_singleton] at hx
   rw [hx]; exact hg
end Go.Proofs.YtlobacpdhglnkaaGreatDoor
namespace Go.Proofs.YtlobacpdhglnkaaGreatDoor
open Go.Vc Rt Go.Bs
set_option maxHeartbeats 1000000
def firstB (N : List Nd) (c : Span) : List Int := pairB N false (spentB N c)
def forkB (R : List SK) (N : List Nd) (c : Span) : List Int := pairB (restrictB R N (firstB N c)) true (withB (restrictB R N (firstB N c)) (marksB (restrictB R N (firstB N c))) c)
def explB (R : List SK) (N : List Nd) (right : Bool) (c : Span) : List Int := if decide ((firstB N c).length = 0) || !right then [] else forkB R N c
theorem pairB_len (N : List Nd) (one : Bool) : ∀ l : List Int, (pairB N one l).length ≤ 2
 | [] => by simp [pairB]
 | a :: r => by
  unfold pairB
  split
  ·simp
  ·exact pairB_len N one r
theorem explain_r (h rb : Nat) (N : List Nd) (hN : NOk N) (R : List SK) (ks : List Int) (liars seed : Int) (sv : Value) (c : Span) (w : World) (hG : Gl w) (H : HR [] w h rb N) (hR : RgR [] w rb R) (hs : SlOf intT [] w sv ks) (hkl : ks.length ≤ 1000000)
  (hne : (firstB N c).length ≠ 0 → rightS ks liars seed = true → (forkB R N c).length ≠ 0) :
  AnsR Tryz.prog 28 [ptr h, vSt sv liars seed, vS c] [.row 3 1 ((explB R N (rightS ks liars seed) c).map encI)] w := by
 have hNl := hN.len
 have hspl := spentB_len N c
 have hfl := pairB_len N false (spentB N c)
 have hNr := nok_restrict (R := R) (marks := firstB N c) hN
 have hNrl := hNr.len
 have hmrl := marksB_len (restrictB R N (firstB N c))
 have hwl : (withB (restrictB R N (firstB N c)) (marksB (restrictB R N (firstB N c))) c).length ≤ (marksB (restrictB R N (firstB N c))).length := List.length_filter_le _ _
 refine calls_e [.x (ptr h), .s (.agg [.x sv, .i liars, .i seed]), .s (.agg (encS c))] Tryz.func28 rfl rfl (Nat.le_of_ble_eq_true rfl) trivial fun B hB => ?_
 repeat refine zq ?_
 refine zr ?_; conv => whnf
 refine ⟨hs.one, ?_⟩; conv => whnf
 intro b4; conv => whnf
 intro b5; conv => whnf
 repeat refine zq ?_
 refine zr ?_; conv => whnf
 refine ansR_call b27 (rd1 (nopI _)) (fun w' hw => spent_r h rb N hN c w' (H.ext hw.fr)) ?_
 intro v2; conv => whnf
 refine ansR_call b64 (rd1 (nopI _)) (fun w' hw => pair_r h rb N hN (spentB N c) false v2 [] w' (slI _ (hw.row (id := 2) rfl) (by omega)) (by omega) (H.ext hw.fr)) ?_
 intro v3; conv => whnf
 change (firstB N c).length ≤ 2 at hfl
 repeat refine zq ?_
 refine zr ?_; conv => whnf
 refine ⟨rfl, ?_⟩; conv => whnf
 refine ⟨.b (rightS ks liars seed), gimp_of (ans_quiet b47 (fun w' hw => rightS_c ks liars seed [] sv w' (hs.fr hw.fr) hkl)), ?_⟩; conv => whnf
 repeat refine zq ?_
 refine At.cond rfl (fun hq => ?_) (fun hq => At.skip ?_)
 ·have hq' : (decide ((firstB N c).length = 0) || !rightS ks liars seed) = true := by
   simp only [bor, List.length_map] at hq
   simpa [firstB] using hq
  have hres : explB R N (rightS ks liars seed) c = [] := by unfold explB; rw [if_pos hq']
  repeat refine zq ?_
  refine zr ?_; conv => whnf
  repeat refine zq ?_
  refine At.ret (At.doneB tab_ok hB _ rfl fun w' hw => ?_)
  rw [hres]
  exact ansR_nil hw rfl rfl
 have hq' : ¬ (decide ((firstB N c).length = 0) || !rightS ks liars seed) = true := by
  simp only [bor, List.length_map] at hq
  simpa [firstB] using hq
 have hres : explB R N (rightS ks liars seed) c = forkB R N c := by unfold explB; rw [if_neg hq']
 have hnf : (forkB R N c).length ≠ 0 := hne (by intro e; rw [e] at hq'; simp at hq') (by cases hr : rightS ks liars seed with | true => rfl | false => rw [hr] at hq'; simp at hq')
 clear hq
 repeat refine zq ?_
 refine zr ?_; conv => whnf
 refine newAb_call (fun i : Nat × List Nat => .x (ptr i.1)) (fun i => i.2) (fun i => HistQ i.1 rb i.2 (restrictB R N (firstB N c))) b49 (fun _ => rfl) (fun w' hw => restrict_r h rb N hN R (firstB N c) v3 w' (hG.ext hw.fr) (H.ext hw.fr) (hR.fr hw.fr) (slI _ (hw.row (id := 3) rfl) (by omega)) (by omega)) ?_
 rintro ⟨g, Bg⟩
 conv => whnf
 intro b8; conv => whnf
 refine ⟨rfl, ?_⟩; conv => whnf
 repeat refine zq ?_
 refine At.planG tab_ok mixed [(5, LO.box b8 28 [.x (ptr g)]), (1, LO.box b5 50 (encS c))] (.take 0 (.take 1 (.take 2 (.take 4 (.br 3 (.br 5 (.br 6 (.take 7 (.done)) (.nob)) (.nob)) (.nob)))))) (by kernel_rfl) (by kernel_rfl) ⟨rfl, rfl, trivial⟩ ?_; conv => whnf
 refine ⟨?_, trivial⟩; conv => whnf
 refine ansR_call b12 (rd1 (nopI _)) (fun w' hw => marks_r g rb _ hNr w' (histO_hr (B := Bg) (hw.objs _ (look_mem (s := 4) rfl)) hNr (fun b hb => by cases hb))) ?_
 intro v6; conv => whnf
 refine ⟨⟨⟨rfl, rfl, trivial⟩, fun w' hw => hw.fr⟩, ?_⟩; conv => whnf
 refine ⟨?_, trivial⟩; conv => whnf
 refine ansR_call b63 (rd1 (nopI _)) (fun w' hw => with_r g rb _ hNr _ c v6 [] w' (slI _ (hw.row (id := 6) rfl) (by omega)) (by omega) (histO_hr (B := Bg) (hw.objs _ (look_mem (s := 4) rfl)) hNr (fun b hb => by cases hb))) ?_
 intro v7; conv => whnf
 refine ⟨⟨⟨rfl, rfl, trivial⟩, fun w' hw => hw.fr⟩, ?_⟩; conv => whnf
 refine ⟨?_, trivial⟩; conv => whnf
 refine ansR_call b64 (rd1 (nopI _)) (fun w' hw => pair_r g rb _ hNr _ true v7 [] w' (slI _ (hw.row (id := 7) rfl) (by omega)) (by omega) (histO_hr (B := Bg) (hw.objs _ (look_mem (s := 4) rfl)) hNr (fun b hb => by cases hb))) ?_
 intro v8; conv => whnf
 refine ⟨⟨⟨rfl, rfl, trivial⟩, fun w' hw => hw.fr⟩, ?_⟩; conv => whnf
 repeat refine zq ?_
 refine zr ?_; conv => whnf
 refine ⟨rfl, ?_⟩; conv => whnf
 repeat refine zq ?_
 refine At.cond rfl (fun hq => ?_) (fun hq => ?_)
 ·repeat refine zq ?_
  refine zr ?_; conv => whnf
  repeat refine zq ?_
  refine At.ret (At.doneB tab_ok hB _ rfl fun w' hw => ?_)
  rw [hres]
  exact ansR_row (id := 8) hw rfl rfl rfl
 ·exfalso
  have := of_decide_eq_false hq
  rw [List.length_map] at this
  change ¬ (0 : Int) < ((forkB R N c).length : Int) at this
  omega
theorem explB_len (R : List SK) (N : List Nd) (right : Bool) (c : Span) : (explB R N right c).length ≤ 2 := by
 unfold explB
 split
 ·simp
 ·exact pairB_len _ _ _
end Go.Proofs.YtlobacpdhglnkaaGreatDoor
namespace Go.Proofs.YtlobacpdhglnkaaGreatDoor
open Go.Vc Rt Go.Bs
set_option maxHeartbeats 1000000
abbrev PartD := Int × List Int
def partT : Ty PartD where
 size := 2
 rel := fun S w p l => ∃ v, l = [.i p.1, .x v] ∧ SlOf intT S w v p.2
 len := fun ⟨v, h, _⟩ => by rw [h]; rfl
 fr := fun hf ⟨v, h, h1⟩ => ⟨v, h, h1.fr hf⟩
 av := fun hs ⟨v, h, h1⟩ => ⟨v, h, h1.avoid hs⟩
def hasL (L : List (Int × Bool)) (x : Int) : Bool := (alook L x).getD false
def okPart (L : List (Int × Bool)) (p : PartD) : Bool := decide (0 < p.2.length) && p.2.all (hasL L)
def explainsB (L : List (Int × Bool)) (P : List PartD) : Int := P.foldl (fun n p => if okPart L p then n + p.1 else n) 0
theorem explainsB_snoc {L : List (Int × Bool)} {P : List PartD} {k : Nat} {p : PartD} (hp : P[k]? = some p) : explainsB L (P.take (k + 1)) = if okPart L p then explainsB L (P.take k) + p.1 else explainsB L (P.take k) := by
 rw [take_snoc hp]; unfold explainsB; rw [List.foldl_append]; rfl
theorem explainsB_bd {L : List (Int × Bool)} (C : Int) (hC : 0 ≤ C) : ∀ (P : List PartD) (n : Int), (∀ p ∈ P, 0 ≤ p.1 ∧ p.1 ≤ C) → 0 ≤ n → 0 ≤ P.foldl (fun n p => if okPart L p then n + p.1 else n) n ∧ P.foldl (fun n p => if okPart L p then n + p.1 else n) n ≤ n + C * P.length
 | [], n, _, h0 => ⟨h0, by simp⟩
 | p :: P, n, h, h0 => by
  have hp := h p (by simp)
  obtain ⟨h1, h2⟩ := explainsB_bd C hC P (if okPart L p then n + p.1 else n) (fun q hq => h q (List.mem_cons_of_mem _ hq)) (by split <;> omega)
  refine ⟨h1, ?_⟩
  rw [List.foldl_cons, List.length_cons]
  have e : C * ((P.length + 1 : Nat) : Int) = C * P.length + C := by push_cast; rw [Int.mul_add, Int.mul_one]
  rw [e]
  split at h2 <;> rename_i hq <;> simp only [hq, if_true, if_false] at h2 ⊢ <;> simp at h2 ⊢ <;> omega
def mT : Ty Nat := flat 1 (fun m => [.x (.map (some m))]) (fun _ => rfl)
theorem box_m {w : World} {b m : Nat} {T : TypeId} {S : List Nat} (hb : w.heap[b]? = some (.cells #[.map (some m)] T (0, 0))) (hS : b ∉ S) : SlOf mT S w (hs b) [m] := by
 have hrow : (LO.row (hs b) T 1 ([m].map fun m => [CV.x (.map (some m))])).holds w := ⟨⟨rfl, .inr ⟨b, 0, 1, _, rfl, hb, Nat.le_refl 1, by unfold maxLen; omega, by simp, rfl⟩⟩, fun l hl => by rw [List.mem_singleton.1 hl]; rfl⟩
 exact SlOf.of_row (enc := fun m => [.x (.map (some m))]) hrow (fun b' hb' => by simp only [hs, blkOf, List.mem_singleton] at hb'; rw [hb']; exact hS) (by simp)
theorem rawQ_b {st : St} {dst : Option Nat} {ty : TypeId} {pos : String} {after : Array Edge} {guard : Option (Nat × Bool)} {keys : Keys} {x i : Operand} {m : Nat} {L : List (Int × Bool)} {k : Int}
  (hx : opv st keys x = some (.s (.c (.x (.map (some m)))))) (hi : opv st keys i = some (.i k)) (hm : ∀ w, Holds st w → MapAt vI vB w m L) :
  RawQ Tryz.prog st keys { dst := dst, op := .lookup 98 x i false, type := ty, pos := pos, after := after, guard := guard } (.b (hasL L k)) := by
 refine RawQ_den (rawQ_lookup (fV := CV.b) (z := .b false) (c := false) (key := k) kl3 ⟨k, rfl⟩ (fun p _ => ⟨p.1, rfl⟩) vI_inj um85 z4 (fun _ => rfl) hx hi rfl hm) ?_
 unfold hasL
 cases alook L k <;> rfl
theorem explains1_c (b m : Nat) (L : List (Int × Bool)) (x : Int) (w : World) (hb : SlOf mT [] w (hs b) [m]) (hm : MapAt vI vB w m L) : Ans Tryz.prog 101 [vI x, ptr b] (.b (!hasL L x)) w := by
 refine calls_e [.i x, .s (.c (.e (hs b) 1 0 0))] Tryz.func101 rfl rfl (Nat.le_of_ble_eq_true rfl) ⟨⟨_, _, _, rfl⟩, trivial⟩ fun B hB => ?_
 repeat refine zq ?_
 refine zr ?_; conv => whnf
 repeat refine zq ?_
 refine zr ?_; conv => whnf
 refine ⟨[.x (.map (some m))], fun w' hw => hb.load (n := 1) (i := 0) (off := 0) hw.fr rfl rfl, ?_⟩; conv => whnf
 refine ⟨.b (hasL L x), gimp_of (rawQ_b rfl rfl (fun w' hw => mapAt_fr hm hw.fr nilS)), ?_⟩; conv => whnf
 repeat refine zq ?_
 refine At.ret (At.doneB tab_ok hB _ rfl fun w' hw => ⟨rfl, hw.fr⟩)
theorem explains_c (P : List PartD) (L : List (Int × Bool)) (lv : Value) (m : Nat) (w : World) (h : SlOf partT [] w lv P) (hm : MapAt vI vB w m L) (hP : ∀ p ∈ P, 0 ≤ p.1 ∧ p.1 ≤ 4398046511104) (hPl : P.length ≤ 1000000) :
  Ans Tryz.prog 54 [lv, .map (some m)] (.i (explainsB L P)) w := by
 have hln := h.len
 refine calls_plainB [.x lv, .x (.map (some m))] Tryz.func54 rfl rfl (Nat.le_of_ble_eq_true rfl) rfl fun B hB => ?_
 repeat refine zq ?_
 refine zr ?_; conv => whnf
 refine ⟨rfl, ?_⟩; conv => whnf
 intro b3; conv => whnf
 repeat refine zq ?_
 refine zr ?_; conv => whnf
 repeat refine zq ?_
 refine zr ?_; conv => whnf
 refine ⟨h.sl, ?_⟩; conv => whnf
 repeat refine zq ?_
 refine At.block ?_
 refine At.loopH (fun k : Nat => { N := Tryz.f54.ntmps, sl := [(3, some (.s (.c (.p 0 b3 0)))), (5, some (.i ((explainsB L (P.take k))))), (8, some (.x lv)), (9, some (.i P.length)), (10, some (.i k))], gl := [], hp := [(0, .box b3 98 [.x (.map (some m))])], S := [], ws := w }) (fun k : Nat => k ≤ P.length) (fun k : Nat => P.length - k)
  (fun w' hw => ⟨0, Nat.zero_le _, Le.of rfl rfl ⟨rfl, rfl, rfl, congrArg (Value.int .i64) hln, rfl, trivial⟩, hw.keep [0] rfl rfl rfl, ⟨⟨_, _, rfl⟩, trivial⟩, trivial⟩) ?_
 intro k hk
 repeat refine zq ?_
 refine zr ?_; conv => whnf
 repeat refine zq ?_
 refine At.cond rfl (fun hc => At.skip ?_) (fun hc => At.exit ?_)
 ·have hltp : k < P.length := by have := of_decide_eq_true hc; omega
  obtain ⟨p, hp⟩ : ∃ x, P[k]? = some x := ⟨_, List.getElem?_eq_getElem hltp⟩
  have hlt : k < P.length := by have := of_decide_eq_true hc; omega
  obtain ⟨_, ⟨u, rfl, hu⟩, hc2⟩ := h.at hp
  have hul := hu.len
  have hsn := explainsB_snoc (L := L) hp
  have hpb := hP p (List.mem_of_getElem? hp)
  obtain ⟨hb0, hb1⟩ := explainsB_bd (L := L) 4398046511104 (by decide) (P.take k) 0 (fun q hq => hP q (List.mem_of_mem_take hq)) (by decide)
  have htl : ((P.take k).length : Int) ≤ 1000000 := by rw [List.length_take]; omega
  change 0 ≤ explainsB L (P.take k) at hb0
  change explainsB L (P.take k) ≤ _ at hb1
  generalize explainsB L (P.take k) = n at hsn hb0 hb1 ⊢
  repeat refine zq ?_
  refine At.block ?_
  repeat refine zq ?_
  refine zr ?_; conv => whnf
  refine ⟨by omega, ?_⟩; conv => whnf
  refine ⟨by omega, ?_⟩; conv => whnf
  refine ⟨[.i p.1, .x u], fun w' hw => hc2 w' hw.fr, ?_⟩; conv => whnf
  intro b7; conv => whnf
  refine ⟨hu.one, ?_⟩; conv => whnf
  repeat refine zq ?_
  refine zr ?_; conv => whnf
  refine ⟨hu.sl, ?_⟩; conv => whnf
  refine ⟨.b (p.2.any fun x => !hasL L x), gimp_of (ans_quiet b59 (fun w' hw => containsF_c p.2 [] u w' (hu.fr hw.fr) 101 #[ptr b3] (fun x => !hasL L x) b101 (fun x hx w'' hx' => explains1_c b3 m L x w'' (box_m (T := 98) ((hx'.block b3 (Array.getElem?_eq_some_iff.1 (hw.box (id := 0) rfl)).1 nilS).trans (hw.box (id := 0) rfl)) nilS) (mapAt_fr hm (hw.fr.trans hx') nilS)))), ?_⟩; conv => whnf
  have hok : (bif decide (0 < slen u) then !(p.2.any fun x => !hasL L x) else false) = okPart L p := by
   rw [band]; unfold okPart
   rw [hul]
   congr 1
   ·rw [decide_eq_decide]; omega
   ·rw [List.not_any_eq_all_not]; simp
  repeat refine zq ?_
  refine At.cond rfl (fun hq => ?_) (fun hq => At.skip ?_)
  ·have hq' : okPart L p = true := by rw [← hok]; exact hq
   rw [if_pos hq'] at hsn
   repeat refine zq ?_
   refine zr ?_; conv => whnf
   refine ⟨⟨by omega, by omega⟩, ?_⟩; conv => whnf
   repeat refine zq ?_
   refine zr ?_; conv => whnf
   refine ⟨⟨by omega, by omega⟩, ?_⟩; conv => whnf
   refine At.nextH fun w' hw => ⟨k + 1, by omega, by omega, Le.of rfl rfl ⟨rfl, congrArg (Value.int .i64) (by rw [hsn]), rfl, rfl, rfl, trivial⟩, hw.keep [0] rfl rfl rfl, ⟨⟨_, _, rfl⟩, trivial⟩, trivial⟩
  ·have hq' : ¬ okPart L p = true := by rw [← hok]; rw [hq]; decide
   rw [if_neg hq'] at hsn
   repeat refine zq ?_
   refine zr ?_; conv => whnf
   refine ⟨⟨by omega, by omega⟩, ?_⟩; conv => whnf
   refine At.nextH fun w' hw => ⟨k + 1, by omega, by omega, Le.of rfl rfl ⟨rfl, congrArg (Value.int .i64) (by rw [hsn]), rfl, rfl, rfl, trivial⟩, hw.keep [0] rfl rfl rfl, ⟨⟨_, _, rfl⟩, trivial⟩, trivial⟩
 ·have hge : k = P.length := by have := of_decide_eq_false hc; omega
  subst hge
  repeat refine zq ?_
  refine zr ?_; conv => whnf
  repeat refine zq ?_
  refine At.ret (At.doneB tab_ok hB _ rfl fun w' hw => ⟨?_, hw.fr⟩)
  rw [List.take_length]
end Go.Proofs.YtlobacpdhglnkaaGreatDoor
