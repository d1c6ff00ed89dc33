/- The law LeaseSafe: for every input the call returns true and the arguments read as before; no condition. -/
import Derived.Test.YtjilbkioieicbaaMK
import Derived.Test.YtjilbkioieicbaaMF
import Derived.Test.YtjilbkioieicbaaMC
import Derived.Test.YtjilbkioieicbaaME
import Derived.Test.YtjilbkioieicbaaRows
import Derived.WalkKit
import Derived.ProofKit
import Derived.OpenShut
import Derived.Carry
/- The law LeaseSafe: its call. -/
namespace Go.Proofs.Ytjilbkioieicbaa
open Go.Vc Rt
set_option linter.unusedVariables false
set_option linter.unusedSimpArgs false
theorem foldl_snocK (l : List AAct) (i : Nat) (x : AAct) (hx : l[i]? = some x) : (l.take (i + 1)).foldl doesW wd0 = doesW ((l.take i).foldl doesW wd0) x := by
  rw [List.take_add_one, hx, List.foldl_append]; rfl
def V0 (v4 v5 : Value) : WV := ⟨.slice none 0 0, .slice none 0 0, .slice none 0 0, v4, v5, [], [], [], .slice none 0 0, .slice none 0 0, .slice none 0 0, .slice none 0 0, .slice none 0 0, [], [], [], [], [], List.replicate 5 0⟩
theorem start0 {w w' : World} {b : Nat} {v4 v5 : Value} {c1 c2 : CV} (hx : Ext w w') (h4 : (LO.row v4 26 1 (List.replicate 5 [CV.x (.slice none 0 0)])).holds w') (h5 : (LO.row v5 3 1 (List.replicate 5 [CV.i 0])).holds w')
    (hb : (LO.box b 86 [.x (.slice none 0 0), .x (.slice none 0 0), .x (.slice none 0 0), c1, c2]).holds w') (e1 : c1.den = v4) (e2 : c2.den = v5) (d45 : ∀ c ∈ blkOf v4, c ∉ blkOf v5) (db4 : b ∉ blkOf v4) (db5 : b ∉ blkOf v5) (hf : w.heap.size ≤ b ∧ (∀ c ∈ blkOf v4, w.heap.size ≤ c) ∧ ∀ c ∈ blkOf v5, w.heap.size ≤ c) :
    WH w' b (V0 v4 v5) ∧ (V0 v4 v5).wd = wd0 ∧ Ext w w' ∧ ∀ c ∈ (V0 v4 v5).blks b, w.heap.size ≤ c := by
  have hbl : (V0 v4 v5).blks b = [b] ++ (blkOf v4 ++ blkOf v5) := by
    show [b] ++ ([] ++ ([] ++ ([] ++ (blkOf v4 ++ (blkOf v5 ++ ([] ++ ([] ++ ([] ++ ([] ++ ([] ++ [])))))))))) = _
    simp
  refine ⟨⟨fun o ho => ?_, ?_, fun p hp => (by cases hp), fun p hp => (by cases hp), fun p hp => (by cases hp)⟩, rfl, hx, fun c hc => ?_⟩
  · unfold WV.objs at ho
    simp only [List.mem_cons, List.not_mem_nil, or_false] at ho
    rcases ho with rfl | rfl | rfl | rfl | rfl | rfl | rfl | rfl | rfl | rfl | rfl
    · have := box_get hb
      show w'.heap[b]? = _
      rw [this]
      simp only [dens, List.map_cons, List.map_nil, e1, e2]
      rfl
    · exact nil_holds
    · exact nil_holds
    · exact nil_holds
    · exact h4
    · exact h5
    · exact nil_holds
    · exact nil_holds
    · exact nil_holds
    · exact nil_holds
    · exact nil_holds
  · rw [hbl]
    refine List.nodup_append.2 ⟨by simp, List.nodup_append.2 ⟨LO.nodup (o := .row v4 26 1 []), LO.nodup (o := .row v5 3 1 []), fun x hx y hy e => d45 x hx (by rw [e]; exact hy)⟩, fun x hx y hy e => ?_⟩
    rw [List.mem_singleton.1 hx] at e
    subst e
    rcases List.mem_append.1 hy with hy | hy
    · exact db4 hy
    · exact db5 hy
  · rw [hbl] at hc
    rcases List.mem_append.1 hc with hc | hc
    · rw [List.mem_singleton.1 hc]; exact hf.1
    · rcases List.mem_append.1 hc with hc | hc
      · exact hf.2.1 c hc
      · exact hf.2.2 c hc
def rowD (V : WV) (r : List Nat) : List (List CV) := ((kd V.wd r).map fun i => V.dl.getD i default).map encDV
def rowS (V : WV) (r : List Nat) : List (List CV) := ((kd V.wd r).map fun i => (V.sl.map (·.1)).getD i (.slice none 0 0)).map encV
def canI (W : Wd) (r : List Nat) (n k : Nat) : List Int := (canL W r n k).map fun j : Nat => (j : Int)
theorem kd_len (W : Wd) (r : List Nat) : (kd W r).length ≤ r.length := List.length_filter_le _ _
theorem rowD_len (V : WV) (r : List Nat) : (rowD V r).length = (kd V.wd r).length := by simp [rowD]
theorem rowS_len (V : WV) (r : List Nat) : (rowS V r).length = (kd V.wd r).length := by simp [rowS]
theorem dD_of {V : WV} {k : Nat} {x : Deed × Value} (h : V.dl[k]? = some x) : dD V.wd k = x.1 := getD_of (by show (V.dl.map (·.1))[k]? = _; rw [List.getElem?_map, h]; rfl)
theorem row_no {V : WV} {r : List Nat} {k : Nat} {x : Deed × Value} (h : V.dl[k]? = some x) (hk : ¬ 0 ≤ x.1.kind) : rowD V (r ++ [k]) = rowD V r ∧ rowS V (r ++ [k]) = rowS V r := by
  unfold rowD rowS
  rw [kd_snoc, dD_of h, if_neg hk, List.append_nil]
  exact ⟨rfl, rfl⟩
theorem row_yes {V : WV} {r : List Nat} {k : Nat} {x : Deed × Value} (h : V.dl[k]? = some x) (hk : 0 ≤ x.1.kind) : rowD V (r ++ [k]) = rowD V r ++ [encD x.1 x.2] ∧ ∀ z, (V.sl.map (·.1))[k]? = some z → rowS V (r ++ [k]) = rowS V r ++ [[CV.x z]] := by
  unfold rowD rowS
  rw [kd_snoc, dD_of h, if_pos hk, List.map_append, List.map_append, List.map_append]
  refine ⟨?_, fun z hz => ?_⟩
  · rw [List.map_singleton, List.map_singleton, getD_of h]; rfl
  · rw [List.map_append, List.map_singleton, List.map_singleton, getD_of hz]; rfl
theorem placed0 (n : Nat) : (placedL [] n).map encBq = List.replicate n [CV.b false] := by
  apply List.ext_getElem?
  intro j
  rcases Nat.lt_or_ge j n with hj | hj
  · rw [List.getElem?_map, placedL_get hj, List.getElem?_replicate, if_pos hj]; rfl
  · rw [List.getElem?_eq_none (by rw [List.length_map, placedL_len]; exact hj), List.getElem?_eq_none (by rw [List.length_replicate]; exact hj)]
theorem canL_snoc (W : Wd) (r : List Nat) (n k : Nat) : canL W r n (k + 1) = canL W r n k ++ (if canTo W r k n = true then [k] else []) := by
  unfold canL
  rw [List.range_succ, List.filter_append]
  congr 1
  by_cases h : canTo W r k n = true
  · rw [if_pos h]; simp [h]
  · rw [if_neg h]; simp [h]
theorem canL_len (W : Wd) (r : List Nat) (n k : Nat) : (canL W r n k).length ≤ k := by
  unfold canL
  have := List.length_filter_le (fun j => canTo W r j n) (List.range k)
  rw [List.length_range] at this; exact this
theorem canI_len (W : Wd) (r : List Nat) (n k : Nat) : (canI W r n k).length = (canL W r n k).length := by simp [canI]
theorem canI_get {W : Wd} {r : List Nat} {n k i : Nat} (h : i < (canI W r n k).length) : ∃ j : Nat, (canI W r n k)[i]? = some (j : Int) ∧ j ∈ canL W r n k := by
  rw [canI_len] at h
  refine ⟨(canL W r n k)[i], ?_, List.getElem_mem h⟩
  unfold canI
  rw [List.getElem?_map, List.getElem?_eq_getElem h]; rfl
theorem nodup_sub : ∀ (a b : List Nat), a.Nodup → (∀ x ∈ a, x ∈ b) → a.length ≤ b.length
  | [], b, _, _ => by simp
  | x :: a, b, hn, hs => by
    obtain ⟨h1, h2⟩ := List.nodup_cons.1 hn
    have hx := hs x (by simp)
    have := nodup_sub a (b.erase x) h2 fun y hy => (List.mem_erase_of_ne (fun e => h1 (by rw [← e]; exact hy))).2 (hs y (by simp [hy]))
    rw [List.length_erase_of_mem hx] at this
    have := List.length_pos_of_mem hx
    simp only [List.length_cons]; omega
theorem kd_same {W : Wd} {r : List Nat} {n : Nat} (hr : r.Nodup) (hlt : ∀ x ∈ r, x < n) (hl : r.length = n) : (kd W (List.range n)).length = (kd W r).length := by
  have h : ∀ x, x ∈ kd W (List.range n) ↔ x ∈ kd W r := fun x => by
    unfold kd
    rw [List.mem_filter, List.mem_filter, List.mem_range]
    exact ⟨fun ⟨a, b⟩ => ⟨all_in hr hlt hl a, b⟩, fun ⟨a, b⟩ => ⟨hlt x a, b⟩⟩
  exact Nat.le_antisymm (nodup_sub _ _ (List.nodup_range.filter _) fun x hx => (h x).1 hx) (nodup_sub _ _ (hr.filter _) fun x hx => (h x).2 hx)
theorem law_lots {V : WV} {b : Nat} {w w' : World} {r : List Nat} {vd vz : Value} {E E' : Nat} (hR : WR [] w b V) (hf : Fr [] w w') (hr : ∀ i ∈ r, i < V.dl.length) (hsl : V.sl.length = V.dl.length) (h20 : ∀ p ∈ V.dl, p.1.spans.length ≤ 20) (hl : r.length ≤ 20)
    (hd : (LO.row vd E 7 (rowD V r)).holds w') (hz : (LO.row vz E' 1 (rowS V r)).holds w') :
    AnsR Try.prog 44 [vd, vz] [.row 58 7 ((leaseK ((kd V.wd r).map (dD V.wd)) ((kd V.wd r).map (dS V.wd))).1.map encL), .row 30 1 ((leaseK ((kd V.wd r).map (dD V.wd)) ((kd V.wd r).map (dS V.wd))).2.map encI)] w' := by
  obtain ⟨sel, hse⟩ : ∃ sel, kd V.wd r = sel := ⟨_, rfl⟩
  have hll := kd_len V.wd r
  unfold rowD at hd
  unfold rowS at hz
  rw [hse] at hd hz hll ⊢
  have hsm : ∀ i ∈ sel, i < V.dl.length := fun i hi => by rw [← hse] at hi; exact hr i (List.mem_filter.1 hi).1
  have hdV : ∀ i, dD V.wd i = (V.dl.getD i default).1 := fun i => getD_map' (fun p : Deed × Value => p.1) V.dl i default
  have hdS : ∀ i, dS V.wd i = (V.sl.getD i (.slice none 0 0, [])).2 := fun i => getD_map' (fun p : Value × List Int => p.2) V.sl i (.slice none 0 0, [])
  have hdm : ∀ p ∈ sel.map (fun i => V.dl.getD i default), p ∈ V.dl := fun p hp => by
    obtain ⟨i, hi, rfl⟩ := List.mem_map.1 hp
    exact mem_getD (hsm i hi)
  have hsm2 : ∀ p ∈ sel.map (fun i => V.sl.getD i (.slice none 0 0, [])), p ∈ V.sl := fun p hp => by
    obtain ⟨i, hi, rfl⟩ := List.mem_map.1 hp
    exact mem_getD (by rw [hsl]; exact hsm i hi)
  have el : (sel.map fun i => V.dl.getD i default).map (·.1) = sel.map (dD V.wd) := by
    rw [List.map_map]; exact List.map_congr_left fun i _ => (hdV i).symm
  have es : (sel.map fun i => V.sl.getD i (.slice none 0 0, [])).map (·.2) = sel.map (dS V.wd) := by
    rw [List.map_map]; exact List.map_congr_left fun i _ => (hdS i).symm
  have ez : (sel.map fun i => (V.sl.map (·.1)).getD i (.slice none 0 0)) = (sel.map fun i => V.sl.getD i (.slice none 0 0, [])).map (·.1) := by
    rw [List.map_map]; exact List.map_congr_left fun i _ => getD_map' (fun p : Value × List Int => p.1) V.sl i (.slice none 0 0, [])
  rw [ez] at hz
  exact leaseLots20_c (sel.map (dD V.wd)) (sel.map (dS V.wd)) vd vz w' (by
      rw [← el]
      exact row_de hd (fun p hp => (hR.di p (hdm p hp)).fr hf) (by rw [List.length_map]; omega)) (by
      rw [← es]
      exact row_se hz (fun p hp => (hR.si p (hsm2 p hp)).fr hf) (by rw [List.length_map]; omega)) (by rw [List.length_map]; omega) (fun d hd => by
      obtain ⟨i, hi, rfl⟩ := List.mem_map.1 hd
      rw [hdV]
      exact h20 _ (mem_getD (hsm i hi)))
theorem Holds.nil4 {st st' : St} {w : World} (h : Holds st w) {i1 E1 s1 i2 E2 s2 i3 E3 s3 i4 E4 s4 : Nat} (h1 : st'.hp = (i1, .row (.slice none 0 0) E1 s1 []) :: (i2, .row (.slice none 0 0) E2 s2 []) :: (i3, .row (.slice none 0 0) E3 s3 []) :: (i4, .row (.slice none 0 0) E4 s4 []) :: st.hp) (h2 : st'.S = st.S) (h3 : st'.ws = st.ws) : Holds st' w :=
  Holds.nil2 (st := { st with hp := (i3, .row (.slice none 0 0) E3 s3 []) :: (i4, .row (.slice none 0 0) E4 s4 []) :: st.hp }) (Holds.nil2 h rfl rfl rfl) h1 h2 h3
set_option maxHeartbeats 4000000 in
theorem safe_c (l : List AAct) (ord : List Int) (v1 v2 : Value) (w : World) (h1 : SlOf acT [] w v1 l) (h2 : SlOf u8T [] w v2 ord) (hord : ∀ x ∈ ord, 0 ≤ x ∧ x ≤ 255) : Ans Try.prog 14 [v1, v2] (.b true) w := by
  have l1 := h1.len
  have l2 := h2.len
  refine calls_plainB [.x v1, .x v2] Try.func14 rfl rfl (Nat.le_of_ble_eq_true rfl) rfl fun B hB => ?_
  repeat refine At.seq ?_
  refine At.region tab_ok ?_
  conv => whnf
  repeat refine At.seq ?_
  refine At.region tab_ok ?_
  conv => whnf
  refine ans_call b42 rfl (fun w' hw => small28_c w') ?_
  conv => whnf
  repeat refine At.seq ?_
  refine At.regionG tab_ok ?_
  conv => whnf
  refine ⟨h1.sl, ?_⟩
  conv => whnf
  rw [l1]
  by_cases q1 : (16 : Int) < l.length
  · rw [decide_eq_true q1]
    conv => whnf
    repeat refine At.seq ?_
    refine At.cond (t := true) rfl (fun hq => ?_) (fun hq => by cases hq)
    repeat refine At.seq ?_
    refine At.region tab_ok ?_
    conv => whnf
    repeat refine At.seq ?_
    refine At.ret (At.doneB tab_ok hB _ rfl fun w' hw => ⟨rfl, hw.fr⟩)
  rw [decide_eq_false q1]
  conv => whnf
  refine ⟨h2.sl, ?_⟩
  conv => whnf
  rw [l2]
  by_cases q2 : (40 : Int) < ord.length
  · rw [decide_eq_true q2]
    conv => whnf
    repeat refine At.seq ?_
    refine At.cond (t := true) rfl (fun hq => ?_) (fun hq => by cases hq)
    repeat refine At.seq ?_
    refine At.region tab_ok ?_
    conv => whnf
    repeat refine At.seq ?_
    refine At.ret (At.doneB tab_ok hB _ rfl fun w' hw => ⟨rfl, hw.fr⟩)
  rw [decide_eq_false q2]
  conv => whnf
  repeat refine At.seq ?_
  refine At.cond (t := false) rfl (fun hq => by cases hq) (fun hq => At.skip ?_)
  repeat refine At.seq ?_
  refine At.join (fun q : World × Nat × WV => { N := Try.f14.ntmps, sl := [(0, some (.x v1)), (1, some (.x v2)), (5, some (.b true)), (6, some (.s (.c (.e (vs q.2.1) 5 0 0))))], gl := [], hp := [], S := [], ws := q.1 }) (fun q : World × Nat × WV => WH q.1 q.2.1 q.2.2 ∧ q.2.2.wd = wd0 ∧ Ext w q.1 ∧ ∀ c ∈ q.2.2.blks q.2.1, w.heap.size ≤ c) ?_ ?_
  · repeat refine At.seq ?_
    refine At.planG tab_ok mixed [] (.br 0 (.br 1 (.take 2 (.br 3 (.take 4 (.done)) (.nob))) (.nob)) (.br 1 (.br 0 (.take 2 (.br 3 (.take 4 (.done)) (.nob))) (.nob)) (.nob))) (by kernel_rfl) (by kernel_rfl) trivial ?_
    conv => whnf
    refine ⟨?_, ?_, trivial⟩
    · conv => whnf
      refine ⟨⟨rfl, by omega, by decide⟩, ?_⟩
      conv => whnf
      intro v4
      conv => whnf
      refine ⟨⟨trivial, fun w' hw => hw.fr⟩, ?_⟩
      conv => whnf
      refine ⟨?_, trivial⟩
      conv => whnf
      refine ⟨⟨rfl, by omega, by decide⟩, ?_⟩
      conv => whnf
      intro v5
      conv => whnf
      refine ⟨⟨trivial, fun w' hw => hw.fr⟩, ?_⟩
      conv => whnf
      refine ⟨?_, trivial⟩
      conv => whnf
      refine ⟨rfl, ?_⟩
      conv => whnf
      refine ⟨rfl, ?_⟩
      conv => whnf
      refine ⟨rfl, ?_⟩
      conv => whnf
      intro b
      conv => whnf
      refine ⟨⟨trivial, fun w' hw => hw.fr⟩, ?_⟩
      conv => whnf
      refine At.meet fun w' hw => ⟨(w', b, V0 v4 v5), (by first | exact start0 hw.fr (hw.row (id := 0) rfl) (hw.row (id := 1) rfl) (hw.objs (2, .box b 86 [.x (.slice none 0 0), .x (.slice none 0 0), .x (.slice none 0 0), .o 0 v4, .o 1 v5]) (look_mem (s := 2) rfl)) rfl rfl (hw.apart (i := 0) (j := 1) rfl rfl (by decide)) (hw.apart (i := 2) (j := 0) rfl rfl (by decide) b (by simp [LO.blks])) (hw.apart (i := 2) (j := 1) rfl rfl (by decide) b (by simp [LO.blks])) ⟨(hw.fresh (id := 2) rfl b (by simp [LO.blks])).elim (fun h => (by cases h)) id, fun c hc => (hw.fresh (id := 0) rfl c hc).elim (fun h => (by cases h)) id, fun c hc => (hw.fresh (id := 1) rfl c hc).elim (fun h => (by cases h)) id⟩ | exact start0 hw.fr (hw.row (id := 1) rfl) (hw.row (id := 0) rfl) (hw.objs (2, .box b 86 [.x (.slice none 0 0), .x (.slice none 0 0), .x (.slice none 0 0), .o 1 v4, .o 0 v5]) (look_mem (s := 2) rfl)) rfl rfl (hw.apart (i := 1) (j := 0) rfl rfl (by decide)) (hw.apart (i := 2) (j := 1) rfl rfl (by decide) b (by simp [LO.blks])) (hw.apart (i := 2) (j := 0) rfl rfl (by decide) b (by simp [LO.blks])) ⟨(hw.fresh (id := 2) rfl b (by simp [LO.blks])).elim (fun h => (by cases h)) id, fun c hc => (hw.fresh (id := 1) rfl c hc).elim (fun h => (by cases h)) id, fun c hc => (hw.fresh (id := 0) rfl c hc).elim (fun h => (by cases h)) id⟩), Le.of rfl rfl ⟨rfl, rfl, rfl, rfl, trivial⟩, Holds.cast (fun o ho => by cases ho) List.nodup_nil (fun c hc => by cases hc) rfl, ⟨⟨_, _, _, rfl⟩, trivial⟩, trivial⟩
    · conv => whnf
      refine ⟨⟨rfl, by omega, by decide⟩, ?_⟩
      conv => whnf
      intro v5
      conv => whnf
      refine ⟨⟨trivial, fun w' hw => hw.fr⟩, ?_⟩
      conv => whnf
      refine ⟨?_, trivial⟩
      conv => whnf
      refine ⟨⟨rfl, by omega, by decide⟩, ?_⟩
      conv => whnf
      intro v4
      conv => whnf
      refine ⟨⟨trivial, fun w' hw => hw.fr⟩, ?_⟩
      conv => whnf
      refine ⟨?_, trivial⟩
      conv => whnf
      refine ⟨rfl, ?_⟩
      conv => whnf
      refine ⟨rfl, ?_⟩
      conv => whnf
      refine ⟨rfl, ?_⟩
      conv => whnf
      intro b
      conv => whnf
      refine ⟨⟨trivial, fun w' hw => hw.fr⟩, ?_⟩
      conv => whnf
      refine At.meet fun w' hw => ⟨(w', b, V0 v4 v5), (by first | exact start0 hw.fr (hw.row (id := 0) rfl) (hw.row (id := 1) rfl) (hw.objs (2, .box b 86 [.x (.slice none 0 0), .x (.slice none 0 0), .x (.slice none 0 0), .o 0 v4, .o 1 v5]) (look_mem (s := 2) rfl)) rfl rfl (hw.apart (i := 0) (j := 1) rfl rfl (by decide)) (hw.apart (i := 2) (j := 0) rfl rfl (by decide) b (by simp [LO.blks])) (hw.apart (i := 2) (j := 1) rfl rfl (by decide) b (by simp [LO.blks])) ⟨(hw.fresh (id := 2) rfl b (by simp [LO.blks])).elim (fun h => (by cases h)) id, fun c hc => (hw.fresh (id := 0) rfl c hc).elim (fun h => (by cases h)) id, fun c hc => (hw.fresh (id := 1) rfl c hc).elim (fun h => (by cases h)) id⟩ | exact start0 hw.fr (hw.row (id := 1) rfl) (hw.row (id := 0) rfl) (hw.objs (2, .box b 86 [.x (.slice none 0 0), .x (.slice none 0 0), .x (.slice none 0 0), .o 1 v4, .o 0 v5]) (look_mem (s := 2) rfl)) rfl rfl (hw.apart (i := 1) (j := 0) rfl rfl (by decide)) (hw.apart (i := 2) (j := 1) rfl rfl (by decide) b (by simp [LO.blks])) (hw.apart (i := 2) (j := 0) rfl rfl (by decide) b (by simp [LO.blks])) ⟨(hw.fresh (id := 2) rfl b (by simp [LO.blks])).elim (fun h => (by cases h)) id, fun c hc => (hw.fresh (id := 1) rfl c hc).elim (fun h => (by cases h)) id, fun c hc => (hw.fresh (id := 0) rfl c hc).elim (fun h => (by cases h)) id⟩), Le.of rfl rfl ⟨rfl, rfl, rfl, rfl, trivial⟩, Holds.cast (fun o ho => by cases ho) List.nodup_nil (fun c hc => by cases hc) rfl, ⟨⟨_, _, _, rfl⟩, trivial⟩, trivial⟩
  rintro ⟨w0, b, V⟩ ⟨hW0, hwd0, hx0, hf0⟩
  simp only at hW0 hwd0 hx0 hf0 ⊢
  repeat refine At.seq ?_
  refine At.region tab_ok ?_
  conv => whnf
  repeat refine At.seq ?_
  refine At.block ?_
  refine At.loopH (fun p : Nat × World × WV => { N := Try.f14.ntmps, sl := [(0, some (.x v1)), (1, some (.x v2)), (5, some (.b true)), (6, some (.s (.c (.e (vs b) 5 0 0)))), (7, some (.i p.1))], gl := [], hp := [], S := [], ws := p.2.1 }) (fun p : Nat × World × WV => p.1 ≤ l.length ∧ WH p.2.1 b p.2.2 ∧ p.2.2.wd = (l.take p.1).foldl doesW wd0 ∧ (∀ a ∈ l.take p.1, RightAct a) ∧ Ext w p.2.1 ∧ ∀ c ∈ p.2.2.blks b, w.heap.size ≤ c) (fun p : Nat × World × WV => l.length - p.1)
    (fun w' hw => ⟨(0, w', V), ⟨Nat.zero_le _, hW0.ext hw.fr, hwd0, fun a ha => by simp at ha, hx0.trans hw.fr, hf0⟩, Le.of rfl rfl ⟨rfl, rfl, rfl, rfl, rfl, trivial⟩, Holds.cast (fun o ho => by cases ho) List.nodup_nil (fun c hc => by cases hc) rfl, ⟨⟨_, _, _, rfl⟩, trivial⟩, trivial⟩) ?_
  rintro ⟨i, ws, V⟩ ⟨hi, hW, hwd, hra, hx, hf⟩
  simp only at hi hW hwd hra hx hf ⊢
  repeat refine At.seq ?_
  refine At.region tab_ok ?_
  conv => whnf
  refine ⟨h1.sl, ?_⟩
  conv => whnf
  rw [l1]
  conv => whnf
  repeat refine At.seq ?_
  refine At.cond rfl (fun hc => At.skip ?_) (fun hc => At.exit ?_)
  · have hlta : i < l.length := by have := of_decide_eq_true hc; omega
    obtain ⟨a, ha⟩ : ∃ x, l[i]? = some x := ⟨_, List.getElem?_eq_getElem hlta⟩
    repeat refine At.seq ?_
    refine At.block ?_
    repeat refine At.seq ?_
    refine At.region tab_ok ?_
    conv => whnf
    refine ⟨by omega, ?_⟩
    conv => whnf
    refine ⟨by omega, ?_⟩
    conv => whnf
    refine ⟨encA a, fun w' hw => (h1.ext hx).load (n := 7) hw.fr ha rfl, ?_⟩
    conv => whnf
    refine ans_call b49 rfl (fun w' hw => rightA_c a w') ?_
    conv => whnf
    cases hr : rightA a
    · conv => whnf
      repeat refine At.seq ?_
      refine At.cond (t := true) rfl (fun hq => ?_) (fun hq => by cases hq)
      repeat refine At.seq ?_
      refine At.region tab_ok ?_
      conv => whnf
      repeat refine At.seq ?_
      refine At.ret (At.doneB tab_ok hB _ rfl fun w' hw => ⟨rfl, hx.trans hw.fr⟩)
    conv => whnf
    repeat refine At.seq ?_
    refine At.cond (t := false) rfl (fun hq => by cases hq) (fun hq => At.skip ?_)
    have hra' := rightA_spec hr
    obtain ⟨hI, hIl⟩ := inv_acts (l.take i) inv0 hra
    rw [← hwd] at hI hIl
    have hdl : V.dl.length ≤ 16 := by
      have h := hIl
      rw [List.length_take] at h
      have : V.wd.deeds.length = V.dl.length := List.length_map ..
      have : wd0.deeds.length = 0 := rfl
      omega
    repeat refine At.seq ?_
    refine At.region tab_ok ?_
    conv => whnf
    refine ⟨by omega, ?_⟩
    conv => whnf
    refine ⟨by omega, ?_⟩
    conv => whnf
    refine ⟨encA a, fun w' hw => (h1.ext hx).load (n := 7) hw.fr ha rfl, ?_⟩
    conv => whnf
    refine snap_call (r := .tup []) b50 rfl (V.blks b) (StepQ V (doesW V.wd a) b) (fun w2 hw c hc => by cases hc) (fun w2 hw => does_c V b a w2 (hW.ext hw.fr) hI hra' (by omega)) (fun w2 w3 hq => ?_) (fun w2 w3 hw2 hw3 hq => ?_)
    · obtain ⟨_, _, _, hf, _⟩ := hq
      exact hf
    conv => whnf
    obtain ⟨V', e', hW', hfr', hnew'⟩ := hq
    repeat refine At.seq ?_
    refine At.region tab_ok ?_
    conv => whnf
    refine ⟨⟨by omega, by omega⟩, ?_⟩
    conv => whnf
    refine At.nextH fun w' hw => ⟨(i + 1, w', V'), ⟨by simp only; omega, hW'.ext hw.fr, by rw [foldl_snocK l i a ha, ← hwd, ← e'], fun c hc => by rw [List.take_add_one, ha] at hc; rcases List.mem_append.1 hc with hc | hc; exact hra c hc; rw [Option.toList_some, List.mem_singleton] at hc; rw [hc]; exact hra', (Fr.over1 (hx.trans hw2.fr) hfr' hf).trans hw.fr, fun c hc => by rcases hnew' c hc with h | h; exact hf c h; exact Nat.le_trans (Nat.le_trans hx.size hw2.fr.size) h⟩, by simp only; omega, Le.of rfl rfl ⟨rfl, rfl, rfl, rfl, rfl, trivial⟩, Holds.cast (fun o ho => by cases ho) List.nodup_nil (fun c hc => by cases hc) rfl, ⟨⟨_, _, _, rfl⟩, trivial⟩, trivial⟩
  have hie : i = l.length := by have := of_decide_eq_false hc; omega
  subst hie
  have hI : Inv V.wd := by rw [hwd]; exact (inv_acts _ inv0 hra).1
  have hnl : V.dl.length ≤ 16 := by
    have h := (inv_acts (l.take l.length) inv0 hra).2
    rw [← hwd, List.length_take] at h
    have : V.wd.deeds.length = V.dl.length := List.length_map ..
    have : wd0.deeds.length = 0 := rfl
    omega
  have hn : V.wd.deeds.length = V.dl.length := List.length_map ..
  have hsl : V.sl.length = V.dl.length := by have := hI.ls; have h : V.wd.seen.length = V.sl.length := List.length_map ..; omega
  have hpl : V.pl.length = V.dl.length := by have := hI.lp; have h : V.wd.past.length = V.pl.length := List.length_map ..; omega
  have hdl : V.days.length = 5 := hI.ld
  have hkl : ∀ p ∈ V.kl, p.2.length = V.dl.length := fun p hp => by
    obtain ⟨i, hi, e⟩ := List.getElem_of_mem hp
    have := hI.kl i hi
    rw [show V.wd.knows.getD i [] = p.2 from getD_of (by show (V.kl.map (·.2))[i]? = _; rw [List.getElem?_map, List.getElem?_eq_getElem hi, e]; rfl)] at this
    omega
  have hR := hW.read (by omega) (by omega) (by omega) (fun p hp => by have := hkl p hp; omega) (by omega)
  have h20 : ∀ p ∈ V.dl, p.1.spans.length ≤ 20 := fun p hp => by
    obtain ⟨i, hi, e⟩ := List.getElem_of_mem hp
    have := hI.spans i (by omega)
    rw [dD_of (V := V) (k := i) (x := p) (by rw [List.getElem?_eq_getElem hi, e])] at this
    exact this
  have l3 := hR.d.len
  obtain ⟨n, hnn⟩ : ∃ n, V.dl.length = n := ⟨_, rfl⟩
  rw [hnn] at hnl hn hsl hpl hkl l3
  repeat refine At.seq ?_
  refine At.region tab_ok ?_
  conv => whnf
  refine ⟨[.x V.v1], fun w' hw => hR.ld1 hw.fr, ?_⟩
  conv => whnf
  refine ⟨hR.d.sl, ?_⟩
  conv => whnf
  rw [l3]
  conv => whnf
  repeat refine At.seq ?_
  refine At.region tab_ok ?_
  conv => whnf
  refine ⟨⟨rfl, by omega, by show (n : Int) * 1 ≤ 140737488355328; omega⟩, ?_⟩
  conv => whnf
  intro vp0
  conv => whnf
  have hp0 : List.replicate n [CV.b false] = (placedL [] n).map encBq := (placed0 n).symm
  conv in List.replicate (Int.toNat _) _ => (change List.replicate n [CV.b false]; rw [hp0])
  repeat refine At.seq ?_
  refine At.region tab_ok ?_
  conv => whnf
  repeat refine At.seq ?_
  refine At.region tab_ok ?_
  conv => whnf
  repeat refine At.seq ?_
  refine At.region tab_ok ?_
  conv => whnf
  repeat refine At.seq ?_
  refine At.region tab_ok ?_
  conv => whnf
  repeat refine At.seq ?_
  refine At.region tab_ok ?_
  conv => whnf
  repeat refine At.seq ?_
  refine At.block ?_
  refine At.loopH (fun p : List Nat × Value × Value × Value × Value × Value => { N := Try.f14.ntmps, sl := [(0, some (.x v1)), (1, some (.x v2)), (5, some (.b true)), (6, some (.s (.c (.e (vs b) 5 0 0)))), (8, some (.i n)), (9, some (.s (.c (.o 0 p.2.1)))), (10, some (.s (.c (.o 1 p.2.2.1)))), (11, some (.s (.c (.o 2 p.2.2.2.1)))), (12, some (.s (.c (.o 3 p.2.2.2.2.1)))), (13, some (.s (.c (.o 4 p.2.2.2.2.2)))), (14, some (.i p.1.length))], gl := [], hp := [(1, .row p.2.2.1 54 7 (rowD V p.1)), (2, .row p.2.2.2.1 22 1 (rowS V p.1)), (3, .row p.2.2.2.2.1 54 7 (rowD V (List.range p.1.length))), (4, .row p.2.2.2.2.2 22 1 (rowS V (List.range p.1.length))), (0, .row p.2.1 4 1 ((placedL p.1 n).map encBq))], S := [], ws := ws }) (fun p : List Nat × Value × Value × Value × Value × Value => p.1.length ≤ n ∧ Placed V.wd p.1) (fun p : List Nat × Value × Value × Value × Value × Value => n - p.1.length)
    (fun w' hw => ⟨([], vp0, .slice none 0 0, .slice none 0 0, .slice none 0 0, .slice none 0 0), ⟨Nat.zero_le _, placed_nil _⟩, Le.of rfl rfl ⟨rfl, rfl, rfl, rfl, rfl, rfl, rfl, rfl, rfl, rfl, rfl, trivial⟩, Holds.nil4 hw rfl rfl rfl, ⟨⟨_, _, _, rfl⟩, ⟨_, _, _, rfl⟩, ⟨_, _, _, rfl⟩, ⟨_, _, _, rfl⟩, ⟨_, _, _, rfl⟩, ⟨_, _, _, rfl⟩, trivial⟩, ⟨(nopDV _).okH, (nopV _).okH, (nopDV _).okH, (nopV _).okH, (nopQ _).okH, trivial⟩⟩) ?_
  rintro ⟨r, vp, vd, vz, vf, vt⟩ ⟨hrn, hr⟩
  simp only at hrn hr ⊢
  repeat refine At.seq ?_
  refine At.region tab_ok ?_
  conv => whnf
  repeat refine At.seq ?_
  refine At.cond rfl (fun hc => At.skip ?_) (fun hc => At.exit ?_)
  · have hrl : r.length < n := by have := of_decide_eq_true hc; omega
    repeat refine At.seq ?_
    refine At.block ?_
    repeat refine At.seq ?_
    refine At.region tab_ok ?_
    conv => whnf
    repeat refine At.seq ?_
    refine At.region tab_ok ?_
    conv => whnf
    repeat refine At.seq ?_
    refine At.block ?_
    refine At.loopH (fun p : Nat × Value => { N := Try.f14.ntmps, sl := [(0, some (.x v1)), (1, some (.x v2)), (5, some (.b true)), (6, some (.s (.c (.e (vs b) 5 0 0)))), (8, some (.i n)), (9, some (.s (.c (.o 0 vp)))), (10, some (.s (.c (.o 1 vd)))), (11, some (.s (.c (.o 2 vz)))), (12, some (.s (.c (.o 3 vf)))), (13, some (.s (.c (.o 4 vt)))), (14, some (.i r.length)), (15, some (.s (.c (.o 5 p.2)))), (16, some (.i p.1))], gl := [], hp := [(5, .row p.2 3 1 ((canI V.wd r n p.1).map encI)), (1, .row vd 54 7 (rowD V r)), (2, .row vz 22 1 (rowS V r)), (3, .row vf 54 7 (rowD V (List.range r.length))), (4, .row vt 22 1 (rowS V (List.range r.length))), (0, .row vp 4 1 ((placedL r n).map encBq))], S := [], ws := ws }) (fun p : Nat × Value => p.1 ≤ n) (fun p : Nat × Value => n - p.1)
      (fun w' hw => ⟨(0, .slice none 0 0), Nat.zero_le _, Le.of rfl rfl ⟨rfl, rfl, rfl, rfl, rfl, rfl, rfl, rfl, rfl, rfl, rfl, rfl, rfl, trivial⟩, hw.nil rfl rfl rfl, ⟨⟨_, _, _, rfl⟩, ⟨_, _, _, rfl⟩, ⟨_, _, _, rfl⟩, ⟨_, _, _, rfl⟩, ⟨_, _, _, rfl⟩, ⟨_, _, _, rfl⟩, ⟨_, _, _, rfl⟩, trivial⟩, ⟨(nopI _).okH, (nopDV _).okH, (nopV _).okH, (nopDV _).okH, (nopV _).okH, (nopQ _).okH, trivial⟩⟩) ?_
    rintro ⟨k, vc⟩ hk
    simp only at hk ⊢
    have hpL := placedL_len r n
    have hcl := canL_len V.wd r n k
    have hcl2 := canI_len V.wd r n k
    repeat refine At.seq ?_
    refine At.region tab_ok ?_
    conv => whnf
    repeat refine At.seq ?_
    refine At.cond rfl (fun hc => At.skip ?_) (fun hc => At.exit ?_)
    · have hkn : k < n := by have := of_decide_eq_true hc; omega
      have gk := placedL_get (r := r) hkn
      obtain ⟨pk, hpk⟩ : ∃ pk, V.pl[k]? = some pk := ⟨_, List.getElem?_eq_getElem (by omega)⟩
      have hpkl : pk.2.length = k + 1 := by
        have := hI.pl k (by omega)
        rw [show V.wd.past.getD k [] = pk.2 from getD_of (by show (V.pl.map (·.2))[k]? = _; rw [List.getElem?_map, hpk]; rfl)] at this
        exact this
      have hpv : (V.pl.map (·.1))[k]? = some pk.1 := by rw [List.getElem?_map, hpk]; rfl
      have hpi := hR.pi pk (List.mem_of_getElem? hpk)
      repeat refine At.seq ?_
      refine At.block ?_
      repeat refine At.seq ?_
      refine At.region tab_ok ?_
      conv => whnf
      obtain ⟨q0, hq0⟩ : ∃ q, decide (k ∈ r) = q := ⟨_, rfl⟩
      rw [hq0] at gk
      refine ⟨rfl, ?_⟩
      conv => whnf
      refine ⟨by omega, ?_⟩
      conv => whnf
      refine ⟨by (try simp only [List.length_map]); omega, ?_⟩
      conv => whnf
      refine ⟨encBq q0, ⟨rfl, rfl, by omega, by rw [Int.toNat_natCast, List.getElem?_map, gk]; rfl⟩, ?_⟩
      conv => whnf
      repeat refine At.seq ?_
      refine At.region tab_ok ?_
      conv => whnf
      repeat refine At.seq ?_
      refine At.block ?_
      refine At.loopH (fun m : Nat => { N := Try.f14.ntmps, sl := [(0, some (.x v1)), (1, some (.x v2)), (5, some (.b true)), (6, some (.s (.c (.e (vs b) 5 0 0)))), (8, some (.i n)), (9, some (.s (.c (.o 0 vp)))), (10, some (.s (.c (.o 1 vd)))), (11, some (.s (.c (.o 2 vz)))), (12, some (.s (.c (.o 3 vf)))), (13, some (.s (.c (.o 4 vt)))), (14, some (.i r.length)), (15, some (.s (.c (.o 5 vc)))), (16, some (.i k)), (17, some (.b ((canTo V.wd r k m)))), (18, some (.i m))], gl := [], hp := [(5, .row vc 3 1 ((canI V.wd r n k).map encI)), (1, .row vd 54 7 (rowD V r)), (2, .row vz 22 1 (rowS V r)), (3, .row vf 54 7 (rowD V (List.range r.length))), (4, .row vt 22 1 (rowS V (List.range r.length))), (0, .row vp 4 1 ((placedL r n).map encBq))], S := [], ws := ws }) (fun m : Nat => m ≤ n) (fun m : Nat => n - m)
        (fun w' hw => ⟨0, Nat.zero_le _, Le.of rfl rfl ⟨rfl, rfl, rfl, rfl, rfl, rfl, rfl, rfl, rfl, rfl, rfl, rfl, rfl, congrArg Value.bool (by simp [canTo, ← hq0]), rfl, trivial⟩, hw.keep [5, 1, 2, 3, 4, 0] rfl rfl rfl, ⟨⟨_, _, _, rfl⟩, ⟨_, _, _, rfl⟩, ⟨_, _, _, rfl⟩, ⟨_, _, _, rfl⟩, ⟨_, _, _, rfl⟩, ⟨_, _, _, rfl⟩, ⟨_, _, _, rfl⟩, trivial⟩, ⟨(nopI _).okH, (nopDV _).okH, (nopV _).okH, (nopDV _).okH, (nopV _).okH, (nopQ _).okH, trivial⟩⟩) ?_
      intro m hm
      repeat refine At.seq ?_
      refine At.region tab_ok ?_
      conv => whnf
      repeat refine At.seq ?_
      refine At.cond rfl (fun hc => At.skip ?_) (fun hc => At.exit ?_)
      · have hmn : m < n := by have := of_decide_eq_true hc; omega
        have gm := placedL_get (r := r) hmn
        have hcs := canTo_step V.wd r k m
        repeat refine At.seq ?_
        refine At.block ?_
        obtain ⟨qm, hqm⟩ : ∃ q, decide (m ∈ r) = q := ⟨_, rfl⟩
        rw [hqm] at gm hcs
        have hdp : dPb V.wd k m = pk.2.getD m false := by
          unfold dPb
          rw [show V.wd.past.getD k [] = pk.2 from getD_of (by show (V.pl.map (·.2))[k]? = _; rw [List.getElem?_map, hpk]; rfl)]
        repeat refine At.seq ?_
        refine At.joinN (fun u : Unit => { N := Try.f14.ntmps, sl := [(0, some (.x v1)), (1, some (.x v2)), (5, some (.b true)), (6, some (.s (.c (.e (vs b) 5 0 0)))), (8, some (.i n)), (9, some (.s (.c (.o 0 vp)))), (10, some (.s (.c (.o 1 vd)))), (11, some (.s (.c (.o 2 vz)))), (12, some (.s (.c (.o 3 vf)))), (13, some (.s (.c (.o 4 vt)))), (14, some (.i r.length)), (15, some (.s (.c (.o 5 vc)))), (16, some (.i k)), (17, some (.b ((canTo V.wd r k (m + 1))))), (18, some (.i m))], gl := [], hp := [(5, .row vc 3 1 ((canI V.wd r n k).map encI)), (1, .row vd 54 7 (rowD V r)), (2, .row vz 22 1 (rowS V r)), (3, .row vf 54 7 (rowD V (List.range r.length))), (4, .row vt 22 1 (rowS V (List.range r.length))), (0, .row vp 4 1 ((placedL r n).map encBq))], S := [], ws := ws }) (fun u : Unit => True) ?_ ?_
        · repeat refine At.seq ?_
          refine At.regionG tab_ok ?_
          conv => whnf
          cases hct : canTo V.wd r k m
          · conv => whnf
            rw [hct, Bool.false_and] at hcs
            refine At.meet fun w' hw => ⟨(), trivial, Le.of rfl rfl ⟨rfl, rfl, rfl, rfl, rfl, rfl, rfl, rfl, rfl, rfl, rfl, rfl, rfl, congrArg Value.bool (by rw [hcs]), rfl, trivial⟩, hw.keep [5, 1, 2, 3, 4, 0] rfl rfl rfl, ⟨⟨_, _, _, rfl⟩, ⟨_, _, _, rfl⟩, ⟨_, _, _, rfl⟩, ⟨_, _, _, rfl⟩, ⟨_, _, _, rfl⟩, ⟨_, _, _, rfl⟩, ⟨_, _, _, rfl⟩, trivial⟩, ⟨(nopI _).okH, (nopDV _).okH, (nopV _).okH, (nopDV _).okH, (nopV _).okH, (nopQ _).okH, trivial⟩⟩
          conv => whnf
          rw [hct, Bool.true_and] at hcs
          refine ⟨rfl, ?_⟩
          conv => whnf
          refine ⟨by omega, ?_⟩
          conv => whnf
          refine ⟨by (try simp only [List.length_map]); omega, ?_⟩
          conv => whnf
          refine ⟨encBq qm, ⟨rfl, rfl, by omega, by rw [Int.toNat_natCast, List.getElem?_map, gm]; rfl⟩, ?_⟩
          conv => whnf
          cases qm
          · conv => whnf
            refine ⟨[.x V.v2], fun w' hw => hR.ld2 hw.fr, ?_⟩
            conv => whnf
            refine ⟨by omega, ?_⟩
            conv => whnf
            refine ⟨by rw [hR.p.len, List.length_map]; omega, ?_⟩
            conv => whnf
            refine ⟨[.x pk.1], fun w' hw => hR.p.load (n := 1) hw.fr hpv rfl, ?_⟩
            conv => whnf
            refine ⟨hpi.sl, ?_⟩
            conv => whnf
            rw [hpi.len, hpkl]
            by_cases hmk : (m : Int) ≥ ((k + 1 : Nat) : Int)
            · rw [decide_eq_true hmk]
              conv => whnf
              refine At.meet fun w' hw => ⟨(), trivial, Le.of rfl rfl ⟨rfl, rfl, rfl, rfl, rfl, rfl, rfl, rfl, rfl, rfl, rfl, rfl, rfl, congrArg Value.bool (by rw [hcs, hdp, getD_ge (by omega)]; rfl), rfl, trivial⟩, hw.keep [5, 1, 2, 3, 4, 0] rfl rfl rfl, ⟨⟨_, _, _, rfl⟩, ⟨_, _, _, rfl⟩, ⟨_, _, _, rfl⟩, ⟨_, _, _, rfl⟩, ⟨_, _, _, rfl⟩, ⟨_, _, _, rfl⟩, ⟨_, _, _, rfl⟩, trivial⟩, ⟨(nopI _).okH, (nopDV _).okH, (nopV _).okH, (nopDV _).okH, (nopV _).okH, (nopQ _).okH, trivial⟩⟩
            rw [decide_eq_false hmk]
            conv => whnf
            obtain ⟨pb, hpb⟩ : ∃ x, pk.2[m]? = some x := ⟨_, List.getElem?_eq_getElem (by omega)⟩
            refine ⟨[.x V.v2], fun w' hw => hR.ld2 hw.fr, ?_⟩
            conv => whnf
            refine ⟨by omega, ?_⟩
            conv => whnf
            refine ⟨by rw [hR.p.len, List.length_map]; omega, ?_⟩
            conv => whnf
            refine ⟨[.x pk.1], fun w' hw => hR.p.load (n := 1) hw.fr hpv rfl, ?_⟩
            conv => whnf
            refine ⟨by omega, ?_⟩
            conv => whnf
            refine ⟨by rw [hpi.len]; omega, ?_⟩
            conv => whnf
            refine ⟨encBq pb, fun w' hw => hpi.load (n := 1) hw.fr hpb rfl, ?_⟩
            conv => whnf
            refine At.meet fun w' hw => ⟨(), trivial, Le.of rfl rfl ⟨rfl, rfl, rfl, rfl, rfl, rfl, rfl, rfl, rfl, rfl, rfl, rfl, rfl, congrArg Value.bool (by rw [hcs, hdp, getD_of hpb]; rfl), rfl, trivial⟩, hw.keep [5, 1, 2, 3, 4, 0] rfl rfl rfl, ⟨⟨_, _, _, rfl⟩, ⟨_, _, _, rfl⟩, ⟨_, _, _, rfl⟩, ⟨_, _, _, rfl⟩, ⟨_, _, _, rfl⟩, ⟨_, _, _, rfl⟩, ⟨_, _, _, rfl⟩, trivial⟩, ⟨(nopI _).okH, (nopDV _).okH, (nopV _).okH, (nopDV _).okH, (nopV _).okH, (nopQ _).okH, trivial⟩⟩
          · conv => whnf
            refine At.meet fun w' hw => ⟨(), trivial, Le.of rfl rfl ⟨rfl, rfl, rfl, rfl, rfl, rfl, rfl, rfl, rfl, rfl, rfl, rfl, rfl, congrArg Value.bool (by rw [hcs]; rfl), rfl, trivial⟩, hw.keep [5, 1, 2, 3, 4, 0] rfl rfl rfl, ⟨⟨_, _, _, rfl⟩, ⟨_, _, _, rfl⟩, ⟨_, _, _, rfl⟩, ⟨_, _, _, rfl⟩, ⟨_, _, _, rfl⟩, ⟨_, _, _, rfl⟩, ⟨_, _, _, rfl⟩, trivial⟩, ⟨(nopI _).okH, (nopDV _).okH, (nopV _).okH, (nopDV _).okH, (nopV _).okH, (nopQ _).okH, trivial⟩⟩
        rintro ⟨⟩ -
        repeat refine At.seq ?_
        refine At.region tab_ok ?_
        conv => whnf
        refine ⟨⟨by omega, by omega⟩, ?_⟩
        conv => whnf
        refine At.nextH fun w' hw => ⟨m + 1, by omega, by omega, Le.of rfl rfl ⟨rfl, rfl, rfl, rfl, rfl, rfl, rfl, rfl, rfl, rfl, rfl, rfl, rfl, rfl, rfl, trivial⟩, hw.keep [5, 1, 2, 3, 4, 0] rfl rfl rfl, ⟨⟨_, _, _, rfl⟩, ⟨_, _, _, rfl⟩, ⟨_, _, _, rfl⟩, ⟨_, _, _, rfl⟩, ⟨_, _, _, rfl⟩, ⟨_, _, _, rfl⟩, ⟨_, _, _, rfl⟩, trivial⟩, ⟨(nopI _).okH, (nopDV _).okH, (nopV _).okH, (nopDV _).okH, (nopV _).okH, (nopQ _).okH, trivial⟩⟩
      have hme : m = n := by have := of_decide_eq_false hc; omega
      subst hme
      have hcs := canL_snoc V.wd r m k
      repeat refine At.seq ?_
      refine At.region tab_ok ?_
      conv => whnf
      repeat refine At.seq ?_
      refine At.cond rfl (fun hq => ?_) (fun hq => ?_)
      · have hq' : canTo V.wd r k m = true := by assumption
        rw [if_pos hq'] at hcs
        repeat refine At.seq ?_
        refine At.region tab_ok ?_
        conv => whnf
        intro u1
        conv => whnf
        refine ⟨rfl, ?_⟩
        conv => whnf
        refine ⟨⟨rfl, by simp only [List.length_map]; show (_ + 1) * 8 ≤ _; omega⟩, ?_⟩
        conv => whnf
        intro vc2
        conv => whnf
        have ha : (canI V.wd r m k).map encI ++ [[CV.i k]] = (canI V.wd r m (k + 1)).map encI := by
          unfold canI
          rw [hcs, List.map_append, List.map_append]; rfl
        rw [ha]
        repeat refine At.seq ?_
        refine At.region tab_ok ?_
        conv => whnf
        refine ⟨⟨by omega, by omega⟩, ?_⟩
        conv => whnf
        refine At.nextH fun w' hw => ⟨(k + 1, vc2), by simp only; omega, by simp only; omega, Le.of rfl rfl ⟨rfl, rfl, rfl, rfl, rfl, rfl, rfl, rfl, rfl, rfl, rfl, rfl, rfl, trivial⟩, hw.keep [5, 1, 2, 3, 4, 0] rfl rfl rfl, ⟨⟨_, _, _, rfl⟩, ⟨_, _, _, rfl⟩, ⟨_, _, _, rfl⟩, ⟨_, _, _, rfl⟩, ⟨_, _, _, rfl⟩, ⟨_, _, _, rfl⟩, ⟨_, _, _, rfl⟩, trivial⟩, ⟨(nopI _).okH, (nopDV _).okH, (nopV _).okH, (nopDV _).okH, (nopV _).okH, (nopQ _).okH, trivial⟩⟩
      · have hq' : ¬ canTo V.wd r k m = true := by simpa using hq
        rw [if_neg hq', List.append_nil] at hcs
        have ha : canI V.wd r m k = canI V.wd r m (k + 1) := by unfold canI; rw [hcs]
        rw [ha]
        refine At.skip ?_
        repeat refine At.seq ?_
        refine At.region tab_ok ?_
        conv => whnf
        refine ⟨⟨by omega, by omega⟩, ?_⟩
        conv => whnf
        refine At.nextH fun w' hw => ⟨(k + 1, vc), by simp only; omega, by simp only; omega, Le.of rfl rfl ⟨rfl, rfl, rfl, rfl, rfl, rfl, rfl, rfl, rfl, rfl, rfl, rfl, rfl, trivial⟩, hw.keep [5, 1, 2, 3, 4, 0] rfl rfl rfl, ⟨⟨_, _, _, rfl⟩, ⟨_, _, _, rfl⟩, ⟨_, _, _, rfl⟩, ⟨_, _, _, rfl⟩, ⟨_, _, _, rfl⟩, ⟨_, _, _, rfl⟩, ⟨_, _, _, rfl⟩, trivial⟩, ⟨(nopI _).okH, (nopDV _).okH, (nopV _).okH, (nopDV _).okH, (nopV _).okH, (nopQ _).okH, trivial⟩⟩
    have hke : k = n := by have := of_decide_eq_false hc; omega
    subst hke
    obtain ⟨j0, hj0⟩ := can_some hI (r := r) (by omega)
    rw [hn] at hj0
    have hcp : 0 < (canI V.wd r k k).length := by rw [canI_len]; exact List.length_pos_of_mem hj0
    obtain ⟨c0, hc0, hcm0⟩ := canI_get hcp
    repeat refine At.seq ?_
    refine At.region tab_ok ?_
    conv => whnf
    refine ⟨rfl, ?_⟩
    conv => whnf
    refine ⟨by omega, ?_⟩
    conv => whnf
    refine ⟨by rw [List.length_map]; omega, ?_⟩
    conv => whnf
    refine ⟨encI c0, ⟨rfl, rfl, by omega, by rw [show Int.toNat 0 = 0 from rfl, List.getElem?_map, hc0]; rfl⟩, ?_⟩
    conv => whnf
    repeat refine At.seq ?_
    refine At.region tab_ok ?_
    conv => whnf
    refine ⟨h2.sl, ?_⟩
    conv => whnf
    rw [l2]
    conv => whnf
    repeat refine At.seq ?_
    refine At.join (fun p : Nat => { N := Try.f14.ntmps, sl := [(0, some (.x v1)), (1, some (.x v2)), (5, some (.b true)), (6, some (.s (.c (.e (vs b) 5 0 0)))), (8, some (.i k)), (9, some (.s (.c (.o 0 vp)))), (10, some (.s (.c (.o 1 vd)))), (11, some (.s (.c (.o 2 vz)))), (12, some (.s (.c (.o 3 vf)))), (13, some (.s (.c (.o 4 vt)))), (14, some (.i r.length)), (19, some (.i p))], gl := [], hp := [(1, .row vd 54 7 (rowD V r)), (2, .row vz 22 1 (rowS V r)), (3, .row vf 54 7 (rowD V (List.range r.length))), (4, .row vt 22 1 (rowS V (List.range r.length))), (0, .row vp 4 1 ((placedL r k).map encBq))], S := [], ws := ws }) (fun p : Nat => p ∈ canL V.wd r k k) ?_ ?_
    · repeat refine At.seq ?_
      refine At.cond rfl (fun hq => ?_) (fun hq => ?_)
      · have hro : r.length < ord.length := by have := of_decide_eq_true hq; omega
        obtain ⟨o, ho⟩ : ∃ o, ord[r.length]? = some o := ⟨_, List.getElem?_eq_getElem hro⟩
        have hob := hord o (List.mem_of_getElem? ho)
        repeat refine At.seq ?_
        refine At.region tab_ok ?_
        conv => whnf
        refine ⟨by omega, ?_⟩
        conv => whnf
        refine ⟨by omega, ?_⟩
        conv => whnf
        refine ⟨encU o, fun w' hw => (h2.ext hx).load (n := 1) hw.fr ho rfl, ?_⟩
        conv => whnf
        refine ⟨⟨by omega, by omega⟩, ?_⟩
        conv => whnf
        have hml : (List.map encI (canI V.wd r k k)).length = (canI V.wd r k k).length := List.length_map ..
        have hm0 := Int.emod_nonneg o (b := ((canI V.wd r k k).length : Int)) (by omega)
        have hm1 := Int.emod_lt_of_pos o (b := ((canI V.wd r k k).length : Int)) (by omega)
        obtain ⟨qi, hqi⟩ : ∃ qi : Nat, o % ((canI V.wd r k k).length : Int) = qi := ⟨(o % ((canI V.wd r k k).length : Int)).toNat, by omega⟩
        obtain ⟨c1, hc1, hcm1⟩ := canI_get (show qi < (canI V.wd r k k).length by omega)
        refine ⟨rfl, ?_⟩
        conv => whnf
        rw [hml, hqi]
        refine ⟨by omega, ?_⟩
        conv => whnf
        refine ⟨by omega, ?_⟩
        conv => whnf
        refine ⟨rfl, ?_⟩
        conv => whnf
        refine ⟨by omega, ?_⟩
        conv => whnf
        refine ⟨by omega, ?_⟩
        conv => whnf
        refine ⟨encI c1, ⟨rfl, rfl, by omega, by rw [Int.toNat_natCast, List.getElem?_map, hc1]; rfl⟩, ?_⟩
        conv => whnf
        refine At.meet fun w' hw => ⟨c1, hcm1, Le.of rfl rfl ⟨rfl, rfl, rfl, rfl, rfl, rfl, rfl, rfl, rfl, rfl, rfl, rfl, trivial⟩, hw.keep [1, 2, 3, 4, 0] rfl rfl rfl, ⟨⟨_, _, _, rfl⟩, ⟨_, _, _, rfl⟩, ⟨_, _, _, rfl⟩, ⟨_, _, _, rfl⟩, ⟨_, _, _, rfl⟩, ⟨_, _, _, rfl⟩, trivial⟩, ⟨(nopDV _).okH, (nopV _).okH, (nopDV _).okH, (nopV _).okH, (nopQ _).okH, trivial⟩⟩
      · refine At.skip ?_
        refine At.meet fun w' hw => ⟨c0, hcm0, Le.of rfl rfl ⟨rfl, rfl, rfl, rfl, rfl, rfl, rfl, rfl, rfl, rfl, rfl, rfl, trivial⟩, hw.keep [1, 2, 3, 4, 0] rfl rfl rfl, ⟨⟨_, _, _, rfl⟩, ⟨_, _, _, rfl⟩, ⟨_, _, _, rfl⟩, ⟨_, _, _, rfl⟩, ⟨_, _, _, rfl⟩, ⟨_, _, _, rfl⟩, trivial⟩, ⟨(nopDV _).okH, (nopV _).okH, (nopDV _).okH, (nopV _).okH, (nopQ _).okH, trivial⟩⟩
    intro a ha
    have hak : a < k := by
      unfold canL at ha
      rw [List.mem_filter, List.mem_range] at ha
      exact ha.1
    have hra2 := placed_snoc hI hr (k := a) (by rw [hn]; exact ha)
    have hset : ((placedL r k).map encBq).set a [CV.b true] = (placedL (r ++ [a]) k).map encBq := by rw [← placedL_set hak, List.map_set]; rfl
    have hlt : a < V.dl.length := by omega
    obtain ⟨x, hx⟩ : ∃ x, V.dl[a]? = some x := ⟨_, List.getElem?_eq_getElem hlt⟩
    obtain ⟨z, hz⟩ : ∃ z, (V.sl.map (·.1))[a]? = some z := ⟨_, List.getElem?_eq_getElem (by rw [List.length_map]; omega)⟩
    have hlty : r.length < V.dl.length := by omega
    obtain ⟨y, hy⟩ : ∃ x, V.dl[r.length]? = some x := ⟨_, List.getElem?_eq_getElem hlty⟩
    obtain ⟨u, hu⟩ : ∃ u, (V.sl.map (·.1))[r.length]? = some u := ⟨_, List.getElem?_eq_getElem (by rw [List.length_map]; omega)⟩
    have hz1 : ∀ {i : Nat} {z : Value}, (V.sl.map (·.1))[i]? = some z → z.oneCell' = true := fun hz => by
      obtain ⟨q, hq, e⟩ := List.mem_map.1 (List.mem_of_getElem? hz)
      rw [← e]; exact (hR.si q hq).sl.one
    have hlD := rowD_len V r
    have hlS := rowS_len V r
    have hlF := rowD_len V (List.range r.length)
    have hlT := rowS_len V (List.range r.length)
    have hkd := kd_len V.wd r
    have hkf := kd_len V.wd (List.range r.length)
    rw [List.length_range] at hkf
    have hpL2 := placedL_len r k
    have hsl2 := hR.s.len
    rw [List.length_map] at hsl2
    repeat refine At.seq ?_
    refine At.region tab_ok ?_
    conv => whnf
    refine ⟨rfl, ?_⟩
    conv => whnf
    refine ⟨by omega, ?_⟩
    conv => whnf
    refine ⟨by rw [List.length_map]; omega, ?_⟩
    conv => whnf
    refine ⟨encBq (decide (a ∈ r)), ⟨rfl, rfl, by omega, by rw [Int.toNat_natCast, List.getElem?_map, placedL_get hak]; rfl⟩, ?_⟩
    conv => whnf
    rw [Int.toNat_natCast, hset]
    repeat refine At.seq ?_
    refine At.region tab_ok ?_
    conv => whnf
    refine ⟨[.x V.v1], fun w' hw => hR.ld1 hw.fr, ?_⟩
    conv => whnf
    refine ⟨by omega, ?_⟩
    conv => whnf
    refine ⟨by omega, ?_⟩
    conv => whnf
    refine ⟨[.i x.1.kind], fun w' hw => hR.d.load (n := 1) hw.fr hx rfl, ?_⟩
    conv => whnf
    repeat refine At.seq ?_
    refine At.join (fun p : Value × Value => { N := Try.f14.ntmps, sl := [(0, some (.x v1)), (1, some (.x v2)), (5, some (.b true)), (6, some (.s (.c (.e (vs b) 5 0 0)))), (8, some (.i k)), (9, some (.s (.c (.o 0 vp)))), (10, some (.s (.c (.o 1 p.1)))), (11, some (.s (.c (.o 2 p.2)))), (12, some (.s (.c (.o 3 vf)))), (13, some (.s (.c (.o 4 vt)))), (14, some (.i r.length))], gl := [], hp := [(1, .row p.1 54 7 (rowD V (r ++ [a]))), (2, .row p.2 22 1 (rowS V (r ++ [a]))), (3, .row vf 54 7 (rowD V (List.range r.length))), (4, .row vt 22 1 (rowS V (List.range r.length))), (0, .row vp 4 1 ((placedL (r ++ [a]) k).map encBq))], S := [], ws := ws }) (fun p : Value × Value => True) ?_ ?_
    · repeat refine At.seq ?_
      refine At.cond rfl (fun hq => ?_) (fun hq => ?_)
      · have hkind : 0 ≤ x.1.kind := of_decide_eq_true hq
        obtain ⟨e1, e2⟩ := row_yes (r := r) hx hkind
        have e2 := e2 z hz
        repeat refine At.seq ?_
        refine At.region tab_ok ?_
        conv => whnf
        refine ⟨[.x V.v1], fun w' hw => hR.ld1 hw.fr, ?_⟩
        conv => whnf
        refine ⟨by omega, ?_⟩
        conv => whnf
        refine ⟨by omega, ?_⟩
        conv => whnf
        refine ⟨encD x.1 x.2, fun w' hw => hR.d.load (n := 7) hw.fr hx rfl, ?_⟩
        conv => whnf
        refine ⟨(hR.di x (List.mem_of_getElem? hx)).sl.one, ?_⟩
        conv => whnf
        intro u1
        conv => whnf
        refine ⟨rfl, ?_⟩
        conv => whnf
        refine ⟨(hR.di x (List.mem_of_getElem? hx)).sl.one, ?_⟩
        conv => whnf
        refine ⟨⟨rfl, by show ((rowD V r).length + 1) * 72 ≤ _; omega⟩, ?_⟩
        conv => whnf
        intro vd2
        conv => whnf
        have ha1 : rowD V r ++ [[CV.i x.1.mark, CV.i x.1.kind, CV.i x.1.author, CV.i x.1.who, CV.i x.1.day, CV.i x.1.til, CV.x x.2]] = rowD V (r ++ [a]) := e1.symm
        rw [ha1]
        repeat refine At.seq ?_
        refine At.region tab_ok ?_
        conv => whnf
        refine ⟨[.x V.v3], fun w' hw => hR.ld3 hw.fr, ?_⟩
        conv => whnf
        refine ⟨by omega, ?_⟩
        conv => whnf
        refine ⟨by omega, ?_⟩
        conv => whnf
        refine ⟨[.x z], fun w' hw => hR.s.load (n := 1) hw.fr hz rfl, ?_⟩
        conv => whnf
        refine ⟨hz1 hz, ?_⟩
        conv => whnf
        intro u2
        conv => whnf
        refine ⟨rfl, ?_⟩
        conv => whnf
        refine ⟨hz1 hz, ?_⟩
        conv => whnf
        refine ⟨⟨rfl, by show ((rowS V r).length + 1) * 24 ≤ _; omega⟩, ?_⟩
        conv => whnf
        intro vz2
        conv => whnf
        rw [← e2]
        refine At.meet fun w' hw => ⟨(vd2, vz2), trivial, Le.of rfl rfl ⟨rfl, rfl, rfl, rfl, rfl, rfl, rfl, rfl, rfl, rfl, rfl, trivial⟩, hw.keep [1, 2, 3, 4, 0] rfl rfl rfl, ⟨⟨_, _, _, rfl⟩, ⟨_, _, _, rfl⟩, ⟨_, _, _, rfl⟩, ⟨_, _, _, rfl⟩, ⟨_, _, _, rfl⟩, ⟨_, _, _, rfl⟩, trivial⟩, ⟨(nopDV _).okH, (nopV _).okH, (nopDV _).okH, (nopV _).okH, (nopQ _).okH, trivial⟩⟩
      · have hkind : ¬ 0 ≤ x.1.kind := of_decide_eq_false hq
        obtain ⟨e1, e2⟩ := row_no (r := r) hx hkind
        refine At.skip ?_
        rw [← e1, ← e2]
        refine At.meet fun w' hw => ⟨(vd, vz), trivial, Le.of rfl rfl ⟨rfl, rfl, rfl, rfl, rfl, rfl, rfl, rfl, rfl, rfl, rfl, trivial⟩, hw.keep [1, 2, 3, 4, 0] rfl rfl rfl, ⟨⟨_, _, _, rfl⟩, ⟨_, _, _, rfl⟩, ⟨_, _, _, rfl⟩, ⟨_, _, _, rfl⟩, ⟨_, _, _, rfl⟩, ⟨_, _, _, rfl⟩, trivial⟩, ⟨(nopDV _).okH, (nopV _).okH, (nopDV _).okH, (nopV _).okH, (nopQ _).okH, trivial⟩⟩
    rintro ⟨vd, vz⟩ -
    simp only
    have hle : (r ++ [a]).length = r.length + 1 := by simp
    have hrange : List.range (r ++ [a]).length = List.range r.length ++ [r.length] := by rw [hle]; exact List.range_succ
    repeat refine At.seq ?_
    refine At.region tab_ok ?_
    conv => whnf
    refine ⟨[.x V.v1], fun w' hw => hR.ld1 hw.fr, ?_⟩
    conv => whnf
    refine ⟨by omega, ?_⟩
    conv => whnf
    refine ⟨by omega, ?_⟩
    conv => whnf
    refine ⟨[.i y.1.kind], fun w' hw => hR.d.load (n := 1) hw.fr hy rfl, ?_⟩
    conv => whnf
    repeat refine At.seq ?_
    refine At.cond rfl (fun hq => ?_) (fun hq => ?_)
    · have hkind : 0 ≤ y.1.kind := of_decide_eq_true hq
      obtain ⟨e1, e2⟩ := row_yes (r := List.range r.length) hy hkind
      have e2 := e2 u hu
      rw [← hrange] at e1 e2
      repeat refine At.seq ?_
      refine At.region tab_ok ?_
      conv => whnf
      refine ⟨[.x V.v1], fun w' hw => hR.ld1 hw.fr, ?_⟩
      conv => whnf
      refine ⟨by omega, ?_⟩
      conv => whnf
      refine ⟨by omega, ?_⟩
      conv => whnf
      refine ⟨encD y.1 y.2, fun w' hw => hR.d.load (n := 7) hw.fr hy rfl, ?_⟩
      conv => whnf
      refine ⟨(hR.di y (List.mem_of_getElem? hy)).sl.one, ?_⟩
      conv => whnf
      intro u1
      conv => whnf
      refine ⟨rfl, ?_⟩
      conv => whnf
      refine ⟨(hR.di y (List.mem_of_getElem? hy)).sl.one, ?_⟩
      conv => whnf
      refine ⟨⟨rfl, by show ((rowD V (List.range r.length)).length + 1) * 72 ≤ _; omega⟩, ?_⟩
      conv => whnf
      intro vf2
      conv => whnf
      have ha1 : rowD V (List.range r.length) ++ [[CV.i y.1.mark, CV.i y.1.kind, CV.i y.1.author, CV.i y.1.who, CV.i y.1.day, CV.i y.1.til, CV.x y.2]] = rowD V (List.range (r ++ [a]).length) := e1.symm
      rw [ha1]
      repeat refine At.seq ?_
      refine At.region tab_ok ?_
      conv => whnf
      refine ⟨[.x V.v3], fun w' hw => hR.ld3 hw.fr, ?_⟩
      conv => whnf
      refine ⟨by omega, ?_⟩
      conv => whnf
      refine ⟨by omega, ?_⟩
      conv => whnf
      refine ⟨[.x u], fun w' hw => hR.s.load (n := 1) hw.fr hu rfl, ?_⟩
      conv => whnf
      refine ⟨hz1 hu, ?_⟩
      conv => whnf
      intro u2
      conv => whnf
      refine ⟨rfl, ?_⟩
      conv => whnf
      refine ⟨hz1 hu, ?_⟩
      conv => whnf
      refine ⟨⟨rfl, by show ((rowS V (List.range r.length)).length + 1) * 24 ≤ _; omega⟩, ?_⟩
      conv => whnf
      intro vt2
      conv => whnf
      rw [← e2]
      repeat refine At.seq ?_
      refine At.region tab_ok ?_
      conv => whnf
      refine ⟨⟨by omega, by omega⟩, ?_⟩
      conv => whnf
      refine At.nextH fun w' hw => ⟨(r ++ [a], vp, vd, vz, vf2, vt2), ⟨by simp only; omega, hra2⟩, by simp only; omega, Le.of rfl rfl ⟨rfl, rfl, rfl, rfl, rfl, rfl, rfl, rfl, rfl, rfl, congrArg (Value.int .i64) (by rw [hle]; rfl), trivial⟩, hw.keep [1, 2, 3, 4, 0] rfl rfl rfl, ⟨⟨_, _, _, rfl⟩, ⟨_, _, _, rfl⟩, ⟨_, _, _, rfl⟩, ⟨_, _, _, rfl⟩, ⟨_, _, _, rfl⟩, ⟨_, _, _, rfl⟩, trivial⟩, ⟨(nopDV _).okH, (nopV _).okH, (nopDV _).okH, (nopV _).okH, (nopQ _).okH, trivial⟩⟩
    · have hkind : ¬ 0 ≤ y.1.kind := of_decide_eq_false hq
      obtain ⟨e1, e2⟩ := row_no (r := List.range r.length) hy hkind
      rw [← hrange] at e1 e2
      rw [← e1, ← e2]
      refine At.skip ?_
      repeat refine At.seq ?_
      refine At.region tab_ok ?_
      conv => whnf
      refine ⟨⟨by omega, by omega⟩, ?_⟩
      conv => whnf
      refine At.nextH fun w' hw => ⟨(r ++ [a], vp, vd, vz, vf, vt), ⟨by simp only; omega, hra2⟩, by simp only; omega, Le.of rfl rfl ⟨rfl, rfl, rfl, rfl, rfl, rfl, rfl, rfl, rfl, rfl, congrArg (Value.int .i64) (by rw [hle]; rfl), trivial⟩, hw.keep [1, 2, 3, 4, 0] rfl rfl rfl, ⟨⟨_, _, _, rfl⟩, ⟨_, _, _, rfl⟩, ⟨_, _, _, rfl⟩, ⟨_, _, _, rfl⟩, ⟨_, _, _, rfl⟩, ⟨_, _, _, rfl⟩, trivial⟩, ⟨(nopDV _).okH, (nopV _).okH, (nopDV _).okH, (nopV _).okH, (nopQ _).okH, trivial⟩⟩
  have hrn' : r.length = n := by have := of_decide_eq_false hc; omega
  rw [hrn']
  obtain ⟨z1, z2, z3⟩ := order_law hI hr (by omega)
  rw [hn] at z1 z3
  have hsp : ∀ (r : List Nat), (∀ i ∈ r, i < n) → ∀ d ∈ (kd V.wd r).map (dD V.wd), d.spans.length ≤ 20 := fun r hr d hd => by
    obtain ⟨i, hi, rfl⟩ := List.mem_map.1 hd
    exact hI.spans i (by rw [hn]; exact hr i (List.mem_filter.1 hi).1)
  have hlr : ∀ i ∈ r, i < n := fun i hi => by have := hr.lt i hi; omega
  have hlg : ∀ i ∈ List.range n, i < n := fun i hi => List.mem_range.1 hi
  obtain ⟨q1, q2⟩ := leaseK_errs ((kd V.wd (List.range n)).map (dD V.wd)) ((kd V.wd (List.range n)).map (dS V.wd)) (hsp _ hlg)
  obtain ⟨q3, q4⟩ := leaseK_errs ((kd V.wd r).map (dD V.wd)) ((kd V.wd r).map (dS V.wd)) (hsp _ hlr)
  have hkd := kd_len V.wd r
  have hkf := kd_len V.wd (List.range n)
  rw [List.length_range] at hkf
  rw [List.length_map] at q1 q2 q3 q4
  repeat refine At.seq ?_
  refine At.region tab_ok ?_
  conv => whnf
  refine ansR_call b44 (rd2 (nopL _) (nopI _)) (fun w' hw => law_lots hR hw.fr (fun i hi => by rw [hnn]; exact hlg i hi) (by omega) h20 (by rw [List.length_range]; omega) (hw.row (id := 3) rfl) (hw.row (id := 4) rfl)) ?_
  intro va
  conv => whnf
  intro ve
  conv => whnf
  repeat refine At.seq ?_
  refine At.region tab_ok ?_
  conv => whnf
  refine ansR_call b44 (rd2 (nopL _) (nopI _)) (fun w' hw => law_lots hR hw.fr (fun i hi => by rw [hnn]; exact hlr i hi) (by omega) h20 (by omega) (hw.row (id := 1) rfl) (hw.row (id := 2) rfl)) ?_
  intro vb
  conv => whnf
  intro vg
  conv => whnf
  rw [← z3]
  obtain ⟨A, hA⟩ : ∃ A, (leaseK ((kd V.wd (List.range n)).map (dD V.wd)) ((kd V.wd (List.range n)).map (dS V.wd))).1 = A := ⟨_, rfl⟩
  obtain ⟨E, hE⟩ : ∃ E, (leaseK ((kd V.wd (List.range n)).map (dD V.wd)) ((kd V.wd (List.range n)).map (dS V.wd))).2 = E := ⟨_, rfl⟩
  obtain ⟨F, hF⟩ : ∃ F, (leaseK ((kd V.wd r).map (dD V.wd)) ((kd V.wd r).map (dS V.wd))).2 = F := ⟨_, rfl⟩
  rw [hE] at z1 q1
  rw [hA] at q2
  rw [hF] at z2 q3
  rw [hA, hE, hF]
  have hlD := rowD_len V r
  have hlF := rowD_len V (List.range n)
  have hEF : E.length = F.length := by rw [q1, q3]; exact kd_same hr.nodup hlr (by omega)
  repeat refine At.seq ?_
  refine At.regionG tab_ok ?_
  conv => whnf
  have w1 : (List.map encI E).length = (rowD V (List.range n)).length := by rw [List.length_map]; omega
  have w2 : (List.map encI F).length = (rowD V r).length := by rw [List.length_map]; omega
  refine ⟨rfl, ?_⟩
  conv => whnf
  refine ⟨rfl, ?_⟩
  conv => whnf
  rw [w1, decide_eq_true (rfl : ((rowD V (List.range n)).length : Int) = _)]
  conv => whnf
  refine ⟨rfl, ?_⟩
  conv => whnf
  refine ⟨rfl, ?_⟩
  conv => whnf
  rw [w2, decide_eq_true (rfl : ((rowD V r).length : Int) = _)]
  conv => whnf
  repeat refine At.seq ?_
  refine At.cond (t := false) rfl (fun hq => by cases hq) (fun hq => At.skip ?_)
  repeat refine At.seq ?_
  refine At.region tab_ok ?_
  conv => whnf
  repeat refine At.seq ?_
  refine At.block ?_
  have hAl : A.length ≤ 3000 := by omega
  refine At.loopH (fun p : Nat => { N := Try.f14.ntmps, sl := [(5, some (.b true)), (20, some (.s (.c (.o 5 va)))), (21, some (.s (.c (.o 6 ve)))), (22, some (.s (.c (.o 7 vb)))), (23, some (.s (.c (.o 8 vg)))), (24, some (.i p))], gl := [], hp := [(8, .row vg 30 1 (F.map encI)), (7, .row vb 58 7 (A.map encL)), (6, .row ve 30 1 (E.map encI)), (5, .row va 58 7 (A.map encL))], S := [], ws := ws }) (fun p : Nat => p ≤ E.length) (fun p : Nat => E.length - p)
    (fun w' hw => ⟨0, Nat.zero_le _, Le.of rfl rfl ⟨rfl, rfl, rfl, rfl, rfl, rfl, trivial⟩, hw.keep [8, 7, 6, 5] rfl rfl rfl, ⟨⟨_, _, _, rfl⟩, ⟨_, _, _, rfl⟩, ⟨_, _, _, rfl⟩, ⟨_, _, _, rfl⟩, trivial⟩, ⟨(nopI _).okH, (nopL _).okH, (nopI _).okH, (nopL _).okH, trivial⟩⟩) ?_
  intro i hi
  have hml : (List.map encI E).length = E.length := List.length_map ..
  have hmf : (List.map encI F).length = F.length := List.length_map ..
  repeat refine At.seq ?_
  refine At.region tab_ok ?_
  conv => whnf
  refine ⟨rfl, ?_⟩
  conv => whnf
  repeat refine At.seq ?_
  refine At.cond rfl (fun hc => At.skip ?_) (fun hc => At.exit ?_)
  · have hie : i < E.length := by have := of_decide_eq_true hc; omega
    obtain ⟨x, hx2⟩ : ∃ x, E[i]? = some x := ⟨_, List.getElem?_eq_getElem hie⟩
    obtain ⟨y, hy2⟩ : ∃ y, F[i]? = some y := ⟨_, List.getElem?_eq_getElem (by omega)⟩
    have ex := z1 x (List.mem_of_getElem? hx2)
    have ey := z2 y (List.mem_of_getElem? hy2)
    subst ex
    subst ey
    repeat refine At.seq ?_
    refine At.block ?_
    repeat refine At.seq ?_
    refine At.regionG tab_ok ?_
    conv => whnf
    refine ⟨rfl, ?_⟩
    conv => whnf
    refine ⟨by omega, ?_⟩
    conv => whnf
    refine ⟨by omega, ?_⟩
    conv => whnf
    refine ⟨encI 0, ⟨rfl, rfl, by omega, by rw [Int.toNat_natCast, List.getElem?_map, hx2]; rfl⟩, ?_⟩
    conv => whnf
    refine ⟨rfl, ?_⟩
    conv => whnf
    refine ⟨by omega, ?_⟩
    conv => whnf
    refine ⟨by omega, ?_⟩
    conv => whnf
    refine ⟨encI 0, ⟨rfl, rfl, by omega, by rw [Int.toNat_natCast, List.getElem?_map, hy2]; rfl⟩, ?_⟩
    conv => whnf
    repeat refine At.seq ?_
    refine At.cond (t := false) rfl (fun hq => by cases hq) (fun hq => At.skip ?_)
    repeat refine At.seq ?_
    refine At.region tab_ok ?_
    conv => whnf
    refine ⟨⟨by omega, by omega⟩, ?_⟩
    conv => whnf
    refine At.nextH fun w' hw => ⟨i + 1, by omega, by omega, Le.of rfl rfl ⟨rfl, rfl, rfl, rfl, rfl, rfl, trivial⟩, hw.keep [8, 7, 6, 5] rfl rfl rfl, ⟨⟨_, _, _, rfl⟩, ⟨_, _, _, rfl⟩, ⟨_, _, _, rfl⟩, ⟨_, _, _, rfl⟩, trivial⟩, ⟨(nopI _).okH, (nopL _).okH, (nopI _).okH, (nopL _).okH, trivial⟩⟩
  repeat refine At.seq ?_
  refine At.regionG tab_ok ?_
  conv => whnf
  refine ans_call b31 (r := .b true) rfl (fun w' hw => by
    have := sameLots_c A A [] [] va vb w' (slL A (hw.row (id := 5) rfl) (by omega)) (slL A (hw.row (id := 7) rfl) (by omega))
    rw [decide_eq_true (rfl : A = A)] at this
    exact this) ?_
  conv => whnf
  repeat refine At.seq ?_
  refine At.ret (At.doneB tab_ok hB _ rfl fun w' hw => ⟨rfl, hx.trans hw.fr⟩)
end Go.Proofs.Ytjilbkioieicbaa

/- Openers of the law LeaseSafe's arguments. -/
namespace Go.Proofs.Ytjilbkioieicbaa
open Go.Vc Rt
set_option linter.unusedVariables false
set_option linter.unusedSimpArgs false
theorem u5b : Try.prog.underlying 5 = some (.int .u8) := by kernel_rfl
theorem u81 : Try.prog.underlying 81 = some (.slice 89) := by kernel_rfl
theorem u82 : Try.prog.underlying 82 = some (.slice 5) := by kernel_rfl
theorem u89 : Try.prog.underlying 89 = some (.struct (Try.prog.fieldsOf 89)) := by kernel_rfl
theorem f89 : (Try.prog.fieldsOf 89).toList.map (fun f => (f.type, f.offset)) = [3, 3, 3, 3, 3, 3, 3].zipIdx := by kernel_rfl
theorem c89 : Try.prog.cellsOf 89 = 7 := by kernel_rfl
theorem c5 : Try.prog.cellsOf 5 = 1 := by kernel_rfl
instance : Inhabited AAct := ⟨⟨0, 0, 0, 0, 0, 0, 0⟩⟩
abbrev Byte := { n : Int // 0 ≤ n ∧ n ≤ 255 }
instance : Inhabited Byte := ⟨⟨0, by omega, by omega⟩⟩
def byT : Ty Byte := flat 1 (fun x => encU x.1) (fun _ => rfl)
theorem byte28 {n : Int} (h : (Lit.int .u8 n).wf = true) : 0 ≤ n ∧ n ≤ 255 := by
  simp only [Lit.wf, Bool.and_eq_true, decide_eq_true_eq] at h
  exact ⟨h.1, h.2⟩
section
variable {H : Type} {enc : TypeId × Value → H} {w : World} {spare : Nat → Bool} {held : Bool}
theorem act_open {fuel : Nat} {cs : List Value} {x : DataW H × List MemPlace} (h : DataW.trod enc Try.prog w 0 spare held fuel 89 cs = some x) : ∃ (s : AAct) (l : List CV), acT.rel [] w s l ∧ dens l = cs := by
  obtain ⟨hl, hg⟩ := struct_open u89 f89 (fun u hu => by simp at hu; subst hu; exact c3) c89 h
  match cs, hl with
  | [a, b, c, d, e, f, g], _ =>
    obtain ⟨_, _, _, e0, t0⟩ := hg 0 3 rfl
    obtain ⟨_, _, _, e1, t1⟩ := hg 1 3 rfl
    obtain ⟨_, _, _, e2, t2⟩ := hg 2 3 rfl
    obtain ⟨_, _, _, e3, t3⟩ := hg 3 3 rfl
    obtain ⟨_, _, _, e4, t4⟩ := hg 4 3 rfl
    obtain ⟨_, _, _, e5, t5⟩ := hg 5 3 rfl
    obtain ⟨_, _, _, e6, t6⟩ := hg 6 3 rfl
    obtain ⟨n0, q0, _⟩ := DataW.trod_int u3 t0
    obtain ⟨n1, q1, _⟩ := DataW.trod_int u3 t1
    obtain ⟨n2, q2, _⟩ := DataW.trod_int u3 t2
    obtain ⟨n3, q3, _⟩ := DataW.trod_int u3 t3
    obtain ⟨n4, q4, _⟩ := DataW.trod_int u3 t4
    obtain ⟨n5, q5, _⟩ := DataW.trod_int u3 t5
    obtain ⟨n6, q6, _⟩ := DataW.trod_int u3 t6
    simp at e0 e1 e2 e3 e4 e5 e6 q0 q1 q2 q3 q4 q5 q6
    subst e0 e1 e2 e3 e4 e5 e6 q0 q1 q2 q3 q4 q5 q6
    exact ⟨⟨n0, n1, n2, n3, n4, n5, n6⟩, _, rfl, rfl⟩
theorem byte_open {fuel : Nat} {cs : List Value} {x : DataW H × List MemPlace} (h : DataW.trod enc Try.prog w 0 spare held fuel 5 cs = some x) : ∃ (s : Byte) (l : List CV), byT.rel [] w s l ∧ dens l = cs := by
  obtain ⟨n, q, _, hw⟩ := DataW.trod_int u5b h
  subst q
  exact ⟨⟨n, byte28 hw⟩, _, rfl, rfl⟩
theorem acts_open {v : Value} {d : DataW H} {ps : List MemPlace} (hs : ∃ a n c, v = .slice a n c) (h : DataW.Trod enc Try.prog w 0 spare held 81 v d ps) : ∃ l, SlOf acT [] w v l := by
  obtain ⟨a, n, c, rfl⟩ := hs
  obtain ⟨fuel, hf⟩ := h
  obtain ⟨v, xs, e, hv⟩ := slOf_open (T := acT) u81 c89 (by decide) (fun cs n x h => act_open h) hf
  simp [Value.cells] at e
  subst e
  exact ⟨xs, hv⟩
theorem bytes_open {v : Value} {d : DataW H} {ps : List MemPlace} (hs : ∃ a n c, v = .slice a n c) (h : DataW.Trod enc Try.prog w 0 spare held 82 v d ps) : ∃ l, SlOf u8T [] w v l ∧ ∀ x ∈ l, 0 ≤ x ∧ x ≤ 255 := by
  obtain ⟨a, n, c, rfl⟩ := hs
  obtain ⟨fuel, hf⟩ := h
  obtain ⟨v, xs, e, hv⟩ := slOf_open (T := byT) u82 c5 (by decide) (fun cs n x h => byte_open h) hf
  simp [Value.cells] at e
  subst e
  refine ⟨xs.map (·.1), ⟨hv.sl, by rw [hv.len, List.length_map], by rw [List.length_map]; exact hv.small, fun a n c e hp => hv.av a n c e (by rw [List.length_map] at hp; exact hp), fun i x hx => ?_⟩, fun x hx => ?_⟩
  · rw [List.getElem?_map] at hx
    obtain ⟨p, hp, rfl⟩ := Option.map_eq_some_iff.1 hx
    obtain ⟨l, hl, hc⟩ := hv.elem i p hp
    exact ⟨l, hl, hc⟩
  · obtain ⟨p, _, rfl⟩ := List.mem_map.1 hx
    exact p.2
end
end Go.Proofs.Ytjilbkioieicbaa


namespace Go.Proofs.Ytjilbkioieicbaa.leaseSafe
open Go.ChangeShapes Go.WideShapes Go.ChangeAt Go.RowKit
set_option linter.unusedVariables false
theorem own : ownKnob Try.prog.godebug = none := by kernel_rfl
set_option maxRecDepth 100000 in
theorem lifted (os : Os) (started : os.Started) (H : Type) (enc : TypeId × Value → H) :
    ReturnsInHanded {} Try.checked os 14 .any (Rows.leaseSafeSpec.pre6 enc Try.prog Try.f14 Rows.leaseSafeRow.domain false) (Rows.leaseSafeSpec.post enc Try.prog Try.f14 false true false false) := by
  refine returnsInHanded_of_change (C := Try.checked) own started (by kernel_rfl) Try.func14
    (ChangeSpec.witness6 (enc := enc) (C := Try.checked) false ⟨#[], #[.slice none 0 0, .slice none 0 0], []⟩ 8 (by kernel_rfl) (by kernel_rfl) (by kernel_rfl) (by kernel_rfl)) ?_
  intro W base args ds gs before hval0 hW hcnd _
  have hval : ∀ (j : Nat) t v, Try.f14.params[j]? = some t → args[j]? = some v → Value.okWide Try.prog W .any base t v := hval0
  have hW' := hW
  obtain ⟨p, q, hA0, hV, rfl, hfz, hnd⟩ := hW
  have hA : DataW.TrodAll enc Try.prog W 0 (fun _ => true) true Try.f14.params.toList args.toList ds p := hA0
  rw [Try.params14] at hA hval
  obtain ⟨v0, vs0, d0, ds0, p0, q0, hargs, rfl, rfl, h0, r0⟩ := trodAll_cons hA
  obtain ⟨v1, vs1, d1, ds1, p1, q1, rfl, rfl, rfl, h1, r1⟩ := trodAll_cons r0
  obtain ⟨rfl, rfl, rfl⟩ := trodAll_nil r1
  obtain rfl : args = #[v0, v1] := by cases args; simp_all
  obtain ⟨rfl, rfl⟩ := trodVars_none hV
  have k0 := h0
  have lt0 : ∀ x ∈ p0, x.block < W.heap.size := fun x hx => hW'.lt x (by simp [hx])
  obtain ⟨l0, s0⟩ := acts_open (okWide_slice u81 (hval 0 81 v0 rfl rfl)) h0
  have k1 := h1
  have lt1 : ∀ x ∈ p1, x.block < W.heap.size := fun x hx => hW'.lt x (by simp [hx])
  obtain ⟨l1, s1⟩ := bytes_open (okWide_slice u82 (hval 1 82 v1 rfl rfl)) h1
  clear hA0 hval0
  simp only [List.append_nil] at hW'
  refine (safe_c l0 l1 v0 v1 W s0 s1.1 s1.2).mono fun e W' ⟨he, hx⟩ => ?_
  subst he
  exact ⟨_, rfl, _, _, _, [], _, [], hW', trodAll_cons_mk (shut_bool u4 _) trodAll_mk0, (trodAll_cons_mk (Below.trod laid (by kernel_rfl) (of_decide_eq_true (by kernel_rfl)) k0 hx.below lt0) (trodAll_cons_mk (Below.trod laid (by kernel_rfl) (of_decide_eq_true (by kernel_rfl)) k1 hx.below lt1) trodAll_mk0)), rfl, hx.below.frame _, fun h => by cases h⟩

theorem over : Rows.leaseSafeRow.holds Try.pinned (OpenSpec.ofChange Rows.leaseSafeSpec) :=
  OpenClaim.holds_of_wide 14 Try.f14 rfl rfl rfl rfl rfl rfl rfl ⟨rfl, rfl, rfl, rfl, rfl⟩ rfl rfl rfl rfl rfl (by kernel_rfl) Try.func14 (by kernel_rfl)
    (of_decide_eq_true (by kernel_rfl)) (by unfold Func.isWrapper; first | (rw [if_pos (by decide +kernel)]; kernel_rfl) | (rw [if_neg (by decide +kernel)]; exact ⟨rfl, rfl⟩))
    (fun os started H enc _ => lifted os started H enc)

/-- The statement. -/
theorem proved : Rows.LeaseSafeSaid :=
  over
#print axioms proved
end Go.Proofs.Ytjilbkioieicbaa.leaseSafe

