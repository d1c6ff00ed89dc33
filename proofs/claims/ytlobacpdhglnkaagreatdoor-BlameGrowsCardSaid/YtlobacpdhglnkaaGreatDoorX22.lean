/- Texts that the law leans on. -/
import Derived.Test.YtlobacpdhglnkaaGreatDoorX21
import Derived.Test.YtlobacpdhglnkaaGreatDoorPVcMore
set_option linter.unusedVariables false
set_option linter.unusedSimpArgs false
namespace Go.Proofs.YtlobacpdhglnkaaGreatDoor
open Go.Vc Rt Go.Bs
def encVS (s : Span) : List Value := [.int .i64 s.m, .int .i64 s.f, .int .i64 s.t]
theorem cmpS_lays (blk off size : Nat) (w : World) : CmpLays Tryz.prog 85 #[] encVS 3 cmpS blk off size w := by
 intro m os dk hs x y
 exact Dr.norm2_c x y _
def ltS (a b : Span) : Prop := a.m < b.m ∨ (a.m = b.m ∧ a.f < b.f)
theorem cmpI_neg {x y : Int} : cmpI x y < 0 ↔ x < y := by unfold cmpI; split <;> (try split) <;> omega
theorem cmpI_zero {x y : Int} : cmpI x y = 0 ↔ x = y := by unfold cmpI; split <;> (try split) <;> omega
theorem ltOf_cmpS (a b : Span) : ltOf cmpS a b = true ↔ ltS a b := by
 unfold ltOf cmpS orI ltS
 rw [decide_eq_true_iff]
 by_cases h : cmpI a.m b.m = 0
 ·have e := cmpI_zero.1 h
  by_cases h2 : cmpI a.f b.f = 0
  ·have e2 := cmpI_zero.1 h2
   simp [h, h2]; omega
  ·simp [h, h2, cmpI_neg]; omega
 ·have e : a.m ≠ b.m := fun e => h (cmpI_zero.2 e)
  simp [h, cmpI_neg]; omega
theorem swoS : Sort.SWO (ltOf cmpS) where
 irrefl x := by
  rw [← Bool.not_eq_true, ltOf_cmpS]; unfold ltS; omega
 trans x y z h1 h2 := by rw [ltOf_cmpS] at *; unfold ltS at *; omega
 ntrans x y z h1 h2 := by rw [← Bool.not_eq_true, ltOf_cmpS] at *; unfold ltS at *; omega
theorem flatK_get (d : Array Span) {j : Nat} (hj : j < d.size * 3) : (dens (d.toList.map encS).flatten)[j]? = some (Sort.flatK encVS 3 d)[j]! := by
 have hlr : ∀ l ∈ d.toList.map encS, l.length = 3 := fun l hl => by obtain ⟨x, _, rfl⟩ := List.mem_map.1 hl; rfl
 have hq : j / 3 < d.size := by omega
 have e := flatten_get hlr (k := j / 3) (row := encS d[j / 3]) (by simp [hq]) (j % 3) (by omega)
 rw [show j / 3 * 3 + j % 3 = j by omega] at e
 rw [Sort.get_flatK _ _ _ _ hj, getElem!_pos d (j / 3) hq]
 simp only [dens, List.getElem?_map, e]
 have h3 : j % 3 = 0 ∨ j % 3 = 1 ∨ j % 3 = 2 := by omega
 rcases h3 with h3 | h3 | h3 <;> rw [h3] <;> rfl
theorem sort_c' (xs : List Span) (v : Value) (w : World) (h : (LO.row v 50 3 (xs.map encS)).holds w) (hN : xs.length ≤ 1000000) (hnil : Calls Tryz.prog 84 #[.slice none 0 0, .func (.func 85) #[] #[]] w fun e w' => e = .returned (.tuple #[]) ∧ w' = w) :
  Calls Tryz.prog 84 #[v, .func (.func 85) #[] #[]] w (fun e w' => ∃ ys : List Span, e = .returned (.tuple #[]) ∧ ys.Perm xs ∧ ys.Pairwise (fun a b => ¬ ltS b a) ∧ (LO.row v 50 3 (ys.map encS)).holds w' ∧ Fr (blkOf v) w w') := by
 have h' := h
 obtain ⟨⟨hlen, hv⟩, hL⟩ := h
 rcases hv with ⟨rfl, h0⟩ | ⟨g, o, cap, cur, rfl, hg, hnc, hcm, hcs, htake⟩
 ·have hx : xs = [] := List.eq_nil_of_length_eq_zero (by simpa using h0)
  subst hx
  exact hnil.mono fun e w' ⟨he, hw⟩ => ⟨[], he, .nil, .nil, by rw [hw]; exact h', by rw [hw]; exact Fr.refl _ _⟩
 ·simp only [List.length_map] at hnc hcs htake hlen ⊢
  have hgs : g < w.heap.size := (Array.getElem?_eq_some_iff.1 hg).1
  have hcell : ∀ j u, (dens (xs.map encS).flatten)[j]? = some u → w.cell? ⟨g, o + j, none⟩ = some u := by
   intro j u hu
   have hj : j < xs.length * 3 := by
    rcases Nat.lt_or_ge j (xs.length * 3) with h1 | h1
    ·exact h1
    ·rw [List.getElem?_eq_none (by omega)] at hu; cases hu
   rw [cell_of_row w g _ _ _ _ hg]
   rw [← htake, List.getElem?_take_of_lt hj, List.getElem?_drop] at hu
   simpa using hu
  have hH : Sort.HoldsK encVS 3 w g o xs.toArray := by
   intro j hj
   simp only [Sort.size_flatK, List.size_toArray] at hj
   refine ⟨hcell j _ (flatK_get xs.toArray (by simpa using hj)), ?_⟩
   simp [World.frozen?, hg]
  have eg : ∀ args w, (callFunc 85 args).run Tryz.prog w = .ok (.enter 85 args) w := enters_of Tryz.func85 (by kernel_rfl) rfl
  have hcon := AnyQ.slices_SortFunc Tryz.sortSp 3 (fun w => ok_isAgg (P := Tryz.prog) (t := 50) (d := .struct (Tryz.prog.fieldsOf 50)) (by kernel_rfl) w) (fun w => by
   obtain ⟨i, hi, hs⟩ : ∃ i, Tryz.prog.info? 50 = some i ∧ i.size = 3 := by
    obtain ⟨i, d, hi, _, hs, _⟩ := chk_info (tab_ok 50 _ rfl)
    exact ⟨i, hi, hs⟩
   have := ok_sizeOf (P := Tryz.prog) hi w
   rw [hs] at this
   exact this) encVS (fun _ => rfl) (fun x v hv => by simp [encVS] at hv; rcases hv with rfl | rfl | rfl <;> rfl) cmpS swoS 85 #[] g o cap xs.toArray w eg (cmpS_lays g o _ w) hH hgs (by simp; omega)
  change Calls Tryz.prog 84 _ _ _ at hcon
  refine hcon.mono fun e w' ⟨he, d', n', os, hp, hs, hw⟩ => ⟨d'.toList, he, ?_, ?_, ?_, ?_⟩
  ·have hp3 := hp.2.2
   have e1 : d'.extract 0 xs.toArray.size = d' := by rw [← hp.1]; simp
   have e2 : xs.toArray.extract 0 xs.toArray.size = xs.toArray := by simp
   rw [e1, e2] at hp3
   simpa using hp3
  ·rw [List.pairwise_iff_getElem]
   intro i j hi hj hij hlt
   have := hs i j (Nat.zero_le _) hij (by rw [← hp.1]; simpa using hj)
   rw [getElem!_pos d' j (by simpa using hj), getElem!_pos d' i (by simpa using hi), ← Bool.not_eq_true, ltOf_cmpS] at this
   exact this (by simpa using hlt)
  all_goals
   have hd : d'.size = xs.length := by rw [hp.1]; simp
   have hheap : w'.heap[g]? = some (.cells (Sort.putCells id o (Sort.flatK encVS 3 d') cur) 50 (0, 0)) := by
    rw [hw]
    simp only [sortWorldK, Sort.grow, Sort.putRowK, Sort.putRow, Sort.mapBlock, Sort.ahead]
    rw [Array.getElem?_append_left (by simpa using hgs), Array.getElem?_modify, if_pos rfl, hg]
    rfl
  ·have hrl : ∀ l ∈ d'.toList.map encS, l.length = 3 := fun l hl => by obtain ⟨x, _, rfl⟩ := List.mem_map.1 hl; rfl
   have hdl : (dens (d'.toList.map encS).flatten).length = xs.length * 3 := by simp only [dens, List.length_map]; rw [flatten_len hrl]; simp [hd]
   refine ⟨⟨by rw [hdl]; simp [hd], .inr ⟨g, o, cap, _, by simp [hd], hheap, by simp [hd]; omega, hcm, by simp [Sort.putCells]; exact hcs, ?_⟩⟩, hrl⟩
   apply List.ext_getElem?
   intro j
   by_cases hj : j < xs.length * 3
   ·have e := flatK_get d' (j := j) (by omega)
    rw [List.getElem?_take_of_lt (by simp [hd]; omega), List.getElem?_drop, e]
    have hlt : o + j < cur.size := by
     have : xs.length * 3 ≤ cap * 3 := Nat.mul_le_mul_right _ hnc
     omega
    simp [Sort.putCells, hlt, hd, hj]
   ·rw [List.getElem?_eq_none (by simp [hd]; omega), List.getElem?_eq_none (by omega)]
  ·rw [hw]
   refine ⟨rfl, rfl, rfl, by simp [sortWorldK, Sort.grow, Sort.putRowK], fun k hk hn => ?_⟩
   have hne : g ≠ k := fun e => hn (by simp [blkOf, e])
   simp only [sortWorldK, Sort.grow, Sort.putRowK, Sort.putRow, Sort.mapBlock, Sort.ahead]
   rw [Array.getElem?_append_left (by simpa using hk), Array.getElem?_modify, if_neg hne]
theorem sort_c (xs : List Span) (v : Value) (w : World) (h : (LO.row v 50 3 (xs.map encS)).holds w) (hN : xs.length ≤ 1000000) :
  Calls Tryz.prog 84 #[v, .func (.func 85) #[] #[]] w (fun e w' => ∃ ys : List Span, e = .returned (.tuple #[]) ∧ ys.Perm xs ∧ ys.Pairwise (fun a b => ¬ ltS b a) ∧ (LO.row v 50 3 (ys.map encS)).holds w' ∧ Fr (blkOf v) w w') := by
 have hcon := AnyF.slices_SortFunc_none Tryz.sortSp none 0 (.func (.func 85) #[] #[]) w
 change Calls Tryz.prog 84 _ _ _ at hcon
 exact sort_c' xs v w h hN hcon
end Go.Proofs.YtlobacpdhglnkaaGreatDoor
namespace Rt
def Has (l : List Span) (m n : Int) : Prop := ∃ s ∈ l, s.m = m ∧ s.f ≤ n ∧ n < s.t
def gap (a b : Span) : Prop := a.m < b.m ∨ (a.m = b.m ∧ a.t < b.f)
structure NF (l : List Span) : Prop where
 ne : ∀ s ∈ l, s.f < s.t
 ord : l.Pairwise gap
theorem Has.cons {s : Span} {l : List Span} {m n : Int} : Has (s :: l) m n ↔ (s.m = m ∧ s.f ≤ n ∧ n < s.t) ∨ Has l m n := by
 unfold Has
 constructor
 ·rintro ⟨x, hx, h⟩
  rcases List.mem_cons.1 hx with rfl | hx
  ·exact .inl h
  ·exact .inr ⟨x, hx, h⟩
 ·rintro (h | ⟨x, hx, h⟩)
  ·exact ⟨s, List.mem_cons_self .., h⟩
  ·exact ⟨x, List.mem_cons_of_mem _ hx, h⟩
theorem Has.append {a b : List Span} {m n : Int} : Has (a ++ b) m n ↔ Has a m n ∨ Has b m n := by
 unfold Has
 constructor
 ·rintro ⟨x, hx, h⟩
  rcases List.mem_append.1 hx with hx | hx
  ·exact .inl ⟨x, hx, h⟩
  ·exact .inr ⟨x, hx, h⟩
 ·rintro (⟨x, hx, h⟩ | ⟨x, hx, h⟩)
  ·exact ⟨x, List.mem_append.2 (.inl hx), h⟩
  ·exact ⟨x, List.mem_append.2 (.inr hx), h⟩
theorem Has.nil {m n : Int} : ¬ Has [] m n := fun ⟨x, hx, _⟩ => by cases hx
theorem NF.tail {s : Span} {l : List Span} (h : NF (s :: l)) : NF l := ⟨fun x hx => h.ne x (List.mem_cons_of_mem _ hx), (List.pairwise_cons.1 h.ord).2⟩
theorem NF.first {s : Span} {l : List Span} (h : NF (s :: l)) {m n : Int} (hh : Has (s :: l) m n) : s.m < m ∨ (s.m = m ∧ s.f ≤ n) := by
 rcases Has.cons.1 hh with ⟨h1, h2, h3⟩ | ⟨x, hx, h1, h2, h3⟩
 ·exact .inr ⟨h1, h2⟩
 ·have := (List.pairwise_cons.1 h.ord).1 x hx
  have := h.ne s (List.mem_cons_self ..)
  have := h.ne x (List.mem_cons_of_mem _ hx)
  unfold gap at *
  omega
theorem NF.rest {s : Span} {l : List Span} (h : NF (s :: l)) {m n : Int} (hh : Has l m n) : s.m < m ∨ (s.m = m ∧ s.t < n) := by
 obtain ⟨x, hx, h1, h2, h3⟩ := hh
 have := (List.pairwise_cons.1 h.ord).1 x hx
 unfold gap at *
 omega
theorem NF.ext : ∀ {a b : List Span}, NF a → NF b → (∀ m n, Has a m n ↔ Has b m n) → a = b
 | [], [], _, _, _ => rfl
 | [], y :: b, _, hb, h => by
  have := hb.ne y (List.mem_cons_self ..)
  exact (Has.nil ((h y.m y.f).2 (Has.cons.2 (.inl ⟨rfl, by omega, by omega⟩)))).elim
 | x :: a, [], ha, _, h => by
  have := ha.ne x (List.mem_cons_self ..)
  exact (Has.nil ((h x.m x.f).1 (Has.cons.2 (.inl ⟨rfl, by omega, by omega⟩)))).elim
 | x :: a, y :: b, ha, hb, h => by
  have hx := ha.ne x (List.mem_cons_self ..)
  have hy := hb.ne y (List.mem_cons_self ..)
  have h1 := hb.first ((h x.m x.f).1 (Has.cons.2 (.inl ⟨rfl, by omega, by omega⟩)))
  have h2 := ha.first ((h y.m y.f).2 (Has.cons.2 (.inl ⟨rfl, by omega, by omega⟩)))
  have em : x.m = y.m := by omega
  have ef : x.f = y.f := by omega
  have et : x.t = y.t := by
   rcases Int.lt_trichotomy x.t y.t with hlt | he | hgt
   ·have hh := (h x.m x.t).2 (Has.cons.2 (.inl ⟨em.symm, by omega, hlt⟩))
    rcases Has.cons.1 hh with h3 | h3
    ·omega
    ·have := ha.rest h3; omega
   ·exact he
   ·have hh := (h y.m y.t).1 (Has.cons.2 (.inl ⟨em, by omega, hgt⟩))
    rcases Has.cons.1 hh with h3 | h3
    ·omega
    ·have := hb.rest h3; omega
  have e : x = y := Span.ext' em ef et
  subst e
  rw [NF.ext ha.tail hb.tail fun m n => ?_]
  constructor
  ·intro hh
   have h3 := ha.rest hh
   rcases Has.cons.1 ((h m n).1 (Has.cons.2 (.inr hh))) with h4 | h4
   ·omega
   ·exact h4
  ·intro hh
   have h3 := hb.rest hh
   rcases Has.cons.1 ((h m n).2 (Has.cons.2 (.inr hh))) with h4 | h4
   ·omega
   ·exact h4
def le2 (a b : Span) : Prop := a.m < b.m ∨ (a.m = b.m ∧ a.f ≤ b.f)
theorem join_snoc (out : List Span) (r s : Span) : join (out ++ [r]) s = if r.m = s.m ∧ s.f ≤ r.t then out ++ [⟨r.m, r.f, max r.t s.t⟩] else out ++ [r] ++ [s] := by
 unfold join
 simp [List.getLast?_append]
theorem join_spec {out : List Span} {s : Span} (h : NF out) (hs : s.f < s.t) (hle : ∀ x ∈ out, le2 x s) : NF (join out s) ∧ (∀ m n, Has (join out s) m n ↔ Has out m n ∨ (s.m = m ∧ s.f ≤ n ∧ n < s.t)) ∧ ∀ x ∈ join out s, ∀ y, (∀ z ∈ out, le2 z y) → le2 s y → le2 x y := by
 rcases List.eq_nil_or_concat out with rfl | ⟨o, r, rfl⟩
 ·have e : join [] s = [s] := rfl
  rw [e]
  refine ⟨⟨fun x hx => by simp at hx; subst hx; exact hs, by simp⟩, fun m n => ?_, fun x hx y _ hy => by simp at hx; subst hx; exact hy⟩
  rw [Has.cons]; constructor
  ·rintro (h | h)
   ·exact .inr h
   ·exact (Has.nil h).elim
  ·rintro (h | h)
   ·exact (Has.nil h).elim
   ·exact .inl h
 ·simp only [List.concat_eq_append] at *
  rw [join_snoc]
  have hr := h.ne r (by simp)
  have hrs := hle r (by simp)
  obtain ⟨h1, h2, h3⟩ := List.pairwise_append.1 h.ord
  split
  ·rename_i hc
   refine ⟨⟨fun x hx => ?_, List.pairwise_append.2 ⟨h1, by simp, fun x hx y hy => ?_⟩⟩, fun m n => ?_, fun x hx y hz hy => ?_⟩
   ·rcases List.mem_append.1 hx with hx | hx
    ·exact h.ne x (by simp [hx])
    ·simp at hx; subst hx; simp only; omega
   ·simp at hy; subst hy
    have := h3 x hx r (by simp)
    unfold gap at *; simp only; exact this
   ·rw [Has.append, Has.append, Has.cons, Has.cons]
    unfold le2 at hrs
    simp only
    constructor
    ·rintro (h4 | h4 | h4)
     ·exact .inl (.inl h4)
     ·by_cases hn : n < r.t
      ·exact .inl (.inr (.inl ⟨h4.1, h4.2.1, hn⟩))
      ·exact .inr ⟨by omega, by omega, by omega⟩
     ·exact (Has.nil h4).elim
    ·rintro ((h4 | h4 | h4) | h4)
     ·exact .inl h4
     ·exact .inr (.inl ⟨h4.1, h4.2.1, by omega⟩)
     ·exact (Has.nil h4).elim
     ·exact .inr (.inl ⟨by omega, by omega, by omega⟩)
   ·rcases List.mem_append.1 hx with hx | hx
    ·exact hz x (by simp [hx])
    ·simp at hx; subst hx; have := hz r (by simp); unfold le2 at *; simp only; exact this
  ·rename_i hc
   refine ⟨⟨fun x hx => ?_, List.pairwise_append.2 ⟨h.ord, by simp, fun x hx y hy => ?_⟩⟩, fun m n => ?_, fun x hx y hz hy => ?_⟩
   ·rcases List.mem_append.1 hx with hx | hx
    ·exact h.ne x hx
    ·simp at hx; subst hx; exact hs
   ·simp at hy; subst hy
    unfold le2 at hrs
    have hgr : gap r y := by unfold gap; omega
    rcases List.mem_append.1 hx with hx | hx
    ·have := h3 x hx r (by simp)
     unfold gap at *; omega
    ·simp at hx; subst hx; exact hgr
   ·rw [Has.append, Has.cons]
    constructor
    ·rintro (h4 | h4 | h4)
     ·exact .inl h4
     ·exact .inr h4
     ·exact (Has.nil h4).elim
    ·rintro (h4 | h4)
     ·exact .inl h4
     ·exact .inr (.inl h4)
   ·rcases List.mem_append.1 hx with hx | hx
    ·exact hz x hx
    ·simp at hx; subst hx; exact hy
theorem joins_spec : ∀ {l out : List Span}, NF out → (∀ s ∈ l, s.f < s.t) → l.Pairwise le2 → (∀ x ∈ out, ∀ s ∈ l, le2 x s) → NF (l.foldl join out) ∧ ∀ m n, Has (l.foldl join out) m n ↔ Has out m n ∨ Has l m n
 | [], out, h, _, _, _ => ⟨h, fun m n => ⟨fun h => .inl h, fun h => h.elim id fun h => (Has.nil h).elim⟩⟩
 | s :: l, out, h, hn, hp, hle => by
  obtain ⟨p1, p2⟩ := List.pairwise_cons.1 hp
  obtain ⟨j1, j2, j3⟩ := join_spec h (hn s (List.mem_cons_self ..)) fun x hx => hle x hx s (List.mem_cons_self ..)
  obtain ⟨k1, k2⟩ := joins_spec (l := l) j1 (fun x hx => hn x (List.mem_cons_of_mem _ hx)) p2 fun x hx y hy => j3 x hx y (fun z hz => hle z hz y (List.mem_cons_of_mem _ hy)) (p1 y hy)
  refine ⟨k1, fun m n => ?_⟩
  rw [List.foldl_cons, k2, j2, Has.cons, or_assoc]
theorem joinAll_spec {l : List Span} (hn : ∀ s ∈ l, s.f < s.t) (hp : l.Pairwise le2) : NF (joinAll l) ∧ ∀ m n, Has (joinAll l) m n ↔ Has l m n := by
 obtain ⟨h1, h2⟩ := joins_spec (out := []) ⟨fun s hs => (by cases hs), .nil⟩ hn hp fun x hx => by cases hx
 exact ⟨h1, fun m n => (h2 m n).trans ⟨fun h => h.elim (fun h => (Has.nil h).elim) id, .inr⟩⟩
theorem Has.perm {a b : List Span} (h : a.Perm b) {m n : Int} : Has a m n ↔ Has b m n :=
 ⟨fun ⟨x, hx, h'⟩ => ⟨x, h.subset hx, h'⟩, fun ⟨x, hx, h'⟩ => ⟨x, h.symm.subset hx, h'⟩⟩
theorem leS_iff {a b : Span} : leS a b = true ↔ le2 a b := by unfold leS le2; simp
theorem insS_perm (s : Span) : ∀ l, (insS s l).Perm (s :: l)
 | [] => .refl _
 | x :: r => by
  simp only [insS]
  split
  ·exact .refl _
  ·exact ((insS_perm s r).cons x).trans (.swap s x r)
theorem isort_perm : ∀ l, (isort l).Perm l
 | [] => .refl _
 | x :: r => (insS_perm x _).trans ((isort_perm r).cons x)
theorem insS_sorted {s : Span} : ∀ {l : List Span}, l.Pairwise le2 → (insS s l).Pairwise le2
 | [], _ => by simp [insS]
 | x :: r, h => by
  obtain ⟨h1, h2⟩ := List.pairwise_cons.1 h
  simp only [insS]
  split
  ·rename_i hc
   rw [leS_iff] at hc
   refine List.pairwise_cons.2 ⟨fun y hy => ?_, h⟩
   rcases List.mem_cons.1 hy with rfl | hy
   ·exact hc
   ·have := h1 y hy; unfold le2 at *; omega
  ·rename_i hc
   rw [leS_iff] at hc
   refine List.pairwise_cons.2 ⟨fun y hy => ?_, insS_sorted h2⟩
   rcases List.mem_cons.1 ((insS_perm s r).subset hy) with rfl | hy
   ·unfold le2 at *; omega
   ·exact h1 y hy
theorem isort_sorted : ∀ l, (isort l).Pairwise le2
 | [] => .nil
 | x :: r => insS_sorted (isort_sorted r)
theorem valid_lt {s : Span} (h : valid s = true) : s.f < s.t := by unfold valid isMark at h; simp at h; omega
theorem norm_of_sorted {l ys : List Span} (hp : ys.Perm (l.filter valid)) (hs : ys.Pairwise le2) : joinAll ys = norm l := by
 have hv : ∀ s ∈ l.filter valid, s.f < s.t := fun s hs => valid_lt (List.mem_filter.1 hs).2
 obtain ⟨a1, a2⟩ := joinAll_spec (l := ys) (fun s h => hv s (hp.subset h)) hs
 obtain ⟨b1, b2⟩ := joinAll_spec (l := isort (l.filter valid)) (fun s h => hv s ((isort_perm _).subset h)) (isort_sorted _)
 exact NF.ext a1 b1 fun m n => by unfold norm; rw [a2, b2, Has.perm hp, Has.perm (isort_perm _)]
theorem norm_spec (l : List Span) : NF (norm l) ∧ ∀ m n, Has (norm l) m n ↔ Has (l.filter valid) m n := by
 obtain ⟨b1, b2⟩ := joinAll_spec (l := isort (l.filter valid)) (fun s h => valid_lt (List.mem_filter.1 ((isort_perm _).subset h)).2) (isort_sorted _)
 exact ⟨b1, fun m n => by unfold norm; rw [b2, Has.perm (isort_perm _)]⟩
theorem norm_valid {l : List Span} : ∀ s ∈ norm l, valid s = true := by
 intro s hs
 obtain ⟨h1, h2⟩ := norm_spec l
 have hlt := h1.ne s hs
 obtain ⟨a, ha, a1, a2, a3⟩ := (h2 s.m s.f).1 ⟨s, hs, rfl, by omega, by omega⟩
 obtain ⟨b, hb, b1, b2, b3⟩ := (h2 s.m (s.t - 1)).1 ⟨s, hs, rfl, by omega, by omega⟩
 have va := (List.mem_filter.1 ha).2
 have vb := (List.mem_filter.1 hb).2
 unfold valid isMark at *
 simp at *
 omega
theorem total_bound : ∀ {l : List Span}, (∀ s ∈ l, valid s = true) → 0 ≤ total l ∧ total l ≤ l.length * 1048576
 | [], _ => by simp [total]
 | s :: l, h => by
  have ih := total_bound (l := l) fun x hx => h x (List.mem_cons_of_mem _ hx)
  have hs := h s (List.mem_cons_self ..)
  unfold valid isMark at hs
  simp at hs
  have e : total (s :: l) = (s.t - s.f) + total l := by simp [total]
  rw [e]
  simp only [List.length_cons]
  omega
theorem total_append (a b : List Span) : total (a ++ b) = total a + total b := by simp [total]
end Rt
namespace Go.Proofs.YtlobacpdhglnkaaGreatDoor
open Go.Vc Rt Go.Bs
theorem last_get (out : List Span) : ∃ r, 0 < out.length → out[out.length - 1]? = some r := by
 rcases Nat.eq_zero_or_pos out.length with h | h
 ·exact ⟨default, fun h' => by omega⟩
 ·exact ⟨out[out.length - 1], fun _ => List.getElem?_eq_getElem (by omega)⟩
theorem rd1 {E size : Nat} {L : List (List CV)} (h : NoP L) : rdOk [.row E size L] := ⟨h, trivial⟩
theorem join_set {out : List Span} {r x : Span} (h0 : 0 < out.length) (hr : out[out.length - 1]? = some r) (h1 : r.m = x.m) (h2 : x.f ≤ r.t) : join out x = out.set (out.length - 1) ⟨r.m, r.f, max r.t x.t⟩ := by
 rcases List.eq_nil_or_concat out with rfl | ⟨o, r', rfl⟩
 ·simp at h0
 ·simp only [List.concat_eq_append] at *
  simp at hr
  subst hr
  rw [join_snoc, if_pos ⟨h1, h2⟩]
  simp
theorem join_app {out : List Span} {r x : Span} (hr : 0 < out.length → out[out.length - 1]? = some r) (h : 0 < out.length → r.m = x.m → ¬ x.f ≤ r.t) : join out x = out ++ [x] := by
 rcases List.eq_nil_or_concat out with rfl | ⟨o, r', rfl⟩
 ·rfl
 ·simp only [List.concat_eq_append] at *
  have hr := hr (by simp)
  simp at hr
  subst hr
  rw [join_snoc, if_neg]
  rintro ⟨h1, h2⟩
  exact h (by simp) h1 h2
theorem pair_le {ys : List Span} (h : ys.Pairwise (fun a b => ¬ ltS b a)) : ys.Pairwise le2 := h.imp fun {a b} h => by unfold ltS at h; unfold le2; omega
theorem join_len (out : List Span) (x : Span) : (join out x).length ≤ out.length + 1 := by
 rcases List.eq_nil_or_concat out with rfl | ⟨o, r', rfl⟩
 ·simp [join]
 ·simp only [List.concat_eq_append]
  rw [join_snoc]
  split <;> simp
theorem joins_len : ∀ (l out : List Span), (l.foldl join out).length ≤ out.length + l.length
 | [], out => by simp
 | x :: l, out => by
  have := joins_len l (join out x)
  have := join_len out x
  simp only [List.foldl_cons, List.length_cons]; omega
theorem norm_len (l : List Span) : (norm l).length ≤ l.length := by
 unfold norm joinAll
 have h1 := joins_len (isort (l.filter valid)) []
 have h2 := (isort_perm (l.filter valid)).length_eq
 have h3 := List.length_filter_le valid l
 simp only [List.length_nil] at h1
 omega
theorem norm_c (xs : List Span) (S : List Nat) (v : Value) (w : World) (h : SlOf spT S w v xs) (hN : xs.length ≤ 1000000) : AnsR Tryz.prog 37 [v] [.row 50 3 ((norm xs).map encS)] w := by
 replace h := h.avoid (S' := []) (fun b hb => by cases hb)
 refine calls_plainB [.x v] Tryz.func37 rfl rfl (Nat.le_of_ble_eq_true rfl) rfl fun B hB => ?_
 repeat refine zq ?_
 refine zr ?_; conv => whnf
 repeat refine zq ?_
 refine zr ?_; conv => whnf
 refine ansR_call b41 (rd1 (nopS xs)) (fun w' hw => cloneS_c xs [] v w' (h.fr hw.fr) hN) ?_
 intro v1; conv => whnf
 refine row_call (id := 0) b82 rfl (fun r v' L' => r = .s (.c (.o 0 v')) ∧ L' = (xs.filter valid).map encS) (fun w' hw => ?_) ?_
 ·refine (deleteS_c xs v1 w' (hw.row (id := 0) rfl) hN 83 #[] (fun s => !valid s) b83 (fun x _ w'' _ => norm1_c x w'')).mono ?_
  rintro e w'' ⟨v', he, hh, hf, hb⟩
  refine ⟨.s (.c (.o 0 v')), v', _, he, ⟨rfl, rfl⟩, ?_, hf, fun b hb' => .inl (hb b hb')⟩
  have e : (fun x => !(!valid x)) = valid := by funext x; simp
  rw [e] at hh
  exact hh
 rintro r v2 L' ⟨rfl, rfl⟩ hsl
 refine ⟨hsl, nopS _, ?_⟩; conv => whnf
 generalize hfl : xs.filter valid = zs
 have hzl : zs.length ≤ 1000000 := by rw [← hfl]; exact Nat.le_trans (List.length_filter_le _ _) hN
 repeat refine zq ?_
 refine zr ?_; conv => whnf
 refine row_call (id := 0) b84 rfl (fun r v' L' => r = .tup [] ∧ v' = v2 ∧ ∃ ys : List Span, L' = ys.map encS ∧ ys.Perm zs ∧ ys.Pairwise (fun a b => ¬ ltS b a)) (fun w' hw => ?_) ?_
 ·refine (sort_c zs v2 w' (hw.row (id := 0) rfl) hzl).mono ?_
  rintro e w'' ⟨ys, he, h1, h2, h3, h4⟩
  exact ⟨.tup [], v2, _, he, ⟨rfl, rfl, ys, rfl, h1, h2⟩, h3, h4, fun b hb => .inl hb⟩
 rintro r v3 L' ⟨rfl, rfl, ys, rfl, hperm, hsort⟩ hsl'
 refine ⟨fun v hv => (by cases hv), nopS _, ?_⟩; conv => whnf
 have hyl : ys.length ≤ 1000000 := by rw [hperm.length_eq]; exact hzl
 have hnorm : joinAll ys = norm xs := norm_of_sorted (by rw [hfl]; exact hperm) (pair_le hsort)
 repeat refine zq ?_
 refine zr ?_; conv => whnf
 repeat refine zq ?_
 refine zr ?_; conv => whnf
 refine ⟨rfl, ?_⟩; conv => whnf
 repeat refine zq ?_
 refine At.block ?_
 refine At.loopH (fun p : Nat × Value => { N := Tryz.f37.ntmps, sl := [(4, some (.s (.c (.o 1 p.2)))), (13, some (.s (.c (.o 0 v3)))), (14, some (.i ys.length)), (15, some (.i p.1))], gl := [], hp := [(1, .row p.2 50 3 (((ys.take p.1).foldl join []).map encS)), (0, .row v3 50 3 (ys.map encS))], S := [], ws := w }) (fun p => p.1 ≤ ys.length) (fun p => ys.length - p.1)
  (fun w' hw => ⟨(0, .slice none 0 0), Nat.zero_le _, Le.of rfl rfl ⟨rfl, rfl, congrArg (Value.int .i64) (by simp), rfl, trivial⟩, hw.nil rfl rfl rfl, ⟨⟨_, _, _, rfl⟩, ⟨_, _, _, rfl⟩, trivial⟩, ⟨(nopS _).okH, (nopS _).okH, trivial⟩⟩) ?_
 rintro ⟨k, vo⟩ hk
 simp only at hk ⊢
 repeat refine zq ?_
 refine zr ?_; conv => whnf
 repeat refine zq ?_
 refine At.cond rfl (fun hc => At.skip ?_) (fun hc => At.exit ?_)
 ·have hlt : k < ys.length := by have := of_decide_eq_true hc; omega
  obtain ⟨x, hx⟩ : ∃ x, ys[k]? = some x := ⟨_, List.getElem?_eq_getElem hlt⟩
  have hol := joins_len (ys.take k) []
  have hnx : (ys.take (k + 1)).foldl join [] = join ((ys.take k).foldl join []) x := by rw [List.take_add_one, hx, List.foldl_append]; rfl
  generalize (ys.take k).foldl join [] = out at hol hnx ⊢
  simp only [List.length_nil, List.length_take] at hol
  obtain ⟨r, hr⟩ := last_get out
  have hr' : ∀ {q : Int}, q = out.length - 1 → 0 ≤ q → (out.map encS)[q.toNat]? = some (encS r) := fun {q} e h0 => by
   rw [List.getElem?_map, show q.toNat = out.length - 1 by omega, hr (by omega)]; rfl
  have hml : (out.map encS).length = out.length := by simp
  repeat refine zq ?_
  refine At.block ?_
  repeat refine zq ?_
  refine zr ?_; conv => whnf
  refine ⟨rfl, ?_⟩; conv => whnf
  refine ⟨by omega, ?_⟩; conv => whnf
  refine ⟨by simp; omega, ?_⟩; conv => whnf
  refine ⟨encS x, ⟨rfl, rfl, by omega, by simp [hx]⟩, ?_⟩; conv => whnf
  intro b; conv => whnf
  repeat refine zq ?_
  refine zr ?_; conv => whnf
  refine ⟨rfl, ?_⟩; conv => whnf
  refine ⟨by rw [hml]; exact ⟨by omega, by omega⟩, ?_⟩; conv => whnf
  repeat refine zq ?_
  refine At.draw tab_ok mixed (by kernel_rfl) ?_; conv => whnf
  refine ⟨by simp only [gimp]; intro _; trivial, ?_⟩; conv => whnf
  refine ⟨by simp only [gimp]; intro h1; exact of_decide_eq_true h1, ?_⟩; conv => whnf
  refine ⟨by simp only [gimp]; intro h1; omega, ?_⟩; conv => whnf
  refine ⟨encS r, by simp only [gimp]; intro h1; have h1 := of_decide_eq_true h1; exact ⟨trivial, trivial, h1, hr' (by rw [hml]) h1⟩, ?_⟩; conv => whnf
  refine ⟨by simp only [gimp]; intro _; trivial, ?_⟩; conv => whnf
  refine ⟨by simp only [gimp]; intro h1; simp only [band, Bool.and_eq_true, decide_eq_true_eq] at h1; exact h1.1, ?_⟩; conv => whnf
  refine ⟨by simp only [gimp]; intro h1; omega, ?_⟩; conv => whnf
  refine ⟨encS r, by simp only [gimp]; intro h1; simp only [band, Bool.and_eq_true, decide_eq_true_eq] at h1; exact ⟨trivial, trivial, h1.1, hr' (by rw [hml]) h1.1⟩, ?_⟩; conv => whnf
  repeat refine zq ?_
  refine At.cond rfl (fun hq => ?_) (fun hq => ?_)
  ·simp only [band, Bool.and_eq_true, decide_eq_true_eq] at hq
   obtain ⟨⟨hq1, hq2⟩, hq3⟩ := hq
   have h0 : 0 < out.length := by rw [hml] at hq1; omega
   have hjs := join_set h0 (hr h0) hq2 hq3
   have hidx : (((out.map encS).length : Int) - 1).toNat = out.length - 1 := by rw [hml]; omega
   repeat refine zq ?_
   refine At.plan tab_ok mixed [(2, .box b 50 (encS x)), (0, .row v3 50 3 (ys.map encS))] (.take 0 (.take 1 (.take 2 (.take 3 (.take 7 (.take 8 (.br 4 (.take 5 (.br 6 (.take 9 (.br 10 (.take 11 (.br 12 .done .nob)) .nob)) .nob)) .nob))))))) (by kernel_rfl) (by kernel_rfl) ⟨rfl, rfl, trivial⟩ ?_; conv => whnf
   refine ⟨?_, trivial⟩; conv => whnf
   refine ⟨rfl, ?_⟩; conv => whnf
   refine ⟨hq1, ?_⟩; conv => whnf
   refine ⟨by omega, ?_⟩; conv => whnf
   refine ⟨⟨⟨rfl, rfl, trivial⟩, fun w' hw => hw.fr⟩, ?_⟩; conv => whnf
   refine ⟨⟨encS r, ⟨rfl, rfl, hq1, hr' (by rw [hml]) hq1⟩, ?_⟩, trivial⟩; conv => whnf
   refine ⟨⟨⟨rfl, rfl, trivial⟩, fun w' hw => hw.fr⟩, ?_⟩; conv => whnf
   refine ⟨?_, trivial⟩; conv => whnf
   refine ⟨rfl, ?_⟩; conv => whnf
   refine ⟨hq1, ?_⟩; conv => whnf
   refine ⟨by omega, ?_⟩; conv => whnf
   refine ⟨⟨⟨rfl, rfl, trivial⟩, fun w' hw => hw.fr⟩, ?_⟩; conv => whnf
   refine ⟨⟨encS r, ⟨rfl, rfl, hq1, hr' (by rw [hml]) hq1⟩, ?_⟩, trivial⟩; conv => whnf
   refine ⟨⟨⟨rfl, rfl, trivial⟩, fun w' hw => hw.fr⟩, ?_⟩; conv => whnf
   refine At.exit ?_
   repeat refine zq ?_
   refine zr ?_; conv => whnf
   refine ⟨⟨by omega, by omega⟩, ?_⟩; conv => whnf
   refine At.nextH fun w' hw => ⟨(k + 1, vo), by simp only; omega, by simp only; omega, Le.of rfl rfl ⟨rfl, rfl, rfl, rfl, trivial⟩, hw.keep [1, 0] ?_ rfl rfl, ⟨⟨_, _, _, rfl⟩, ⟨_, _, _, rfl⟩, trivial⟩, ⟨(nopS _).okH, (nopS _).okH, trivial⟩⟩
   show [(1, LO.row vo 50 3 _), (0, LO.row v3 50 3 _)] = [(1, LO.row vo 50 3 _), (0, LO.row v3 50 3 _)]
   rw [hnx, hjs, hidx, List.map_set]
   rfl
  ·have hja : join out x = out ++ [x] := join_app hr fun h0 h1 h2 => by
    simp only [band, Bool.and_eq_false_iff, decide_eq_false_iff_not] at hq
    rw [hml] at hq; omega
   refine At.skip ?_
   repeat refine zq ?_
   refine zr ?_; conv => whnf
   intro v4; conv => whnf
   refine ⟨rfl, ?_⟩; conv => whnf
   refine ⟨⟨rfl, by simp; omega⟩, ?_⟩; conv => whnf
   intro v5; conv => whnf
   repeat refine zq ?_
   refine zr ?_; conv => whnf
   refine ⟨⟨by omega, by omega⟩, ?_⟩; conv => whnf
   refine At.nextH fun w' hw => ⟨(k + 1, v5), by simp only; omega, by simp only; omega, Le.of rfl rfl ⟨rfl, rfl, rfl, rfl, trivial⟩, hw.keep [1, 0] ?_ rfl rfl, ⟨⟨_, _, _, rfl⟩, ⟨_, _, _, rfl⟩, trivial⟩, ⟨(nopS _).okH, (nopS _).okH, trivial⟩⟩
   show [(1, LO.row v5 50 3 _), (0, LO.row v3 50 3 _)] = [(1, LO.row v5 50 3 _), (0, LO.row v3 50 3 _)]
   rw [hnx, hja, List.map_append]
   rfl
 ·have hge : k = ys.length := by have := of_decide_eq_false hc; omega
  subst hge
  repeat refine zq ?_
  refine zr ?_; conv => whnf
  repeat refine zq ?_
  refine At.ret (At.doneB tab_ok hB _ rfl fun w' hw => ansR_row (id := 1) hw (by rw [← hnorm, List.take_length]; rfl) rfl rfl)
end Go.Proofs.YtlobacpdhglnkaaGreatDoor
namespace Go.Proofs.YtlobacpdhglnkaaGreatDoor
open Go.Vc Rt Go.Bs
theorem count_c (xs : List Span) (S : List Nat) (v : Value) (w : World) (h : SlOf spT S w v xs) (hN : xs.length ≤ 1000000) : Ans Tryz.prog 10 [v] (.i (count xs)) w := by
 replace h := h.avoid (S' := []) (fun b hb => by cases hb)
 have hnl := norm_len xs
 have hval := norm_valid (l := xs)
 have hcount : count xs = total (norm xs) := rfl
 refine calls_plainB [.x v] Tryz.func10 rfl rfl (Nat.le_of_ble_eq_true rfl) rfl fun B hB => ?_
 repeat refine zq ?_
 refine zr ?_; conv => whnf
 repeat refine zq ?_
 refine zr ?_; conv => whnf
 repeat refine zq ?_
 refine zr ?_; conv => whnf
 refine ansR_call b37 (rd1 (nopS (norm xs))) (fun w' hw => norm_c xs [] v w' (h.fr hw.fr) hN) ?_
 intro v1; conv => whnf
 refine ⟨rfl, ?_⟩; conv => whnf
 rw [hcount] at *
 generalize norm xs = ys at *
 have hs : ∀ k, 0 ≤ total (ys.take k) ∧ total (ys.take k) ≤ 1048576000000 := fun k => by
  have := total_bound (l := ys.take k) fun s hs => hval s (List.mem_of_mem_take hs)
  have : (ys.take k).length ≤ ys.length := by simp; omega
  omega
 repeat refine zq ?_
 refine At.block ?_
 refine At.loopH (fun k : Nat => { N := Tryz.f10.ntmps, sl := [(3, some (.i (total (ys.take k)))), (7, some (.s (.c (.o 0 v1)))), (8, some (.i ys.length)), (9, some (.i k))], gl := [], hp := [(0, .row v1 50 3 (ys.map encS))], S := [], ws := w }) (fun k => k ≤ ys.length) (fun k => ys.length - k)
  (fun w' hw => ⟨0, Nat.zero_le _, Le.of rfl rfl ⟨rfl, rfl, congrArg (Value.int .i64) (by simp), rfl, trivial⟩, hw.same rfl rfl rfl, ⟨⟨_, _, _, rfl⟩, trivial⟩, ⟨(nopS _).okH, trivial⟩⟩) ?_
 intro k hk
 repeat refine zq ?_
 refine zr ?_; conv => whnf
 repeat refine zq ?_
 refine At.cond rfl (fun hc => At.skip ?_) (fun hc => At.exit ?_)
 ·have hlt : k < ys.length := by have := of_decide_eq_true hc; omega
  obtain ⟨x, hx⟩ : ∃ x, ys[k]? = some x := ⟨_, List.getElem?_eq_getElem hlt⟩
  have hvx := hval x (List.mem_of_getElem? hx)
  have e : total (ys.take (k + 1)) = total (ys.take k) + (x.t - x.f) := by rw [List.take_add_one, hx, total_append]; simp [total]
  have h1 := hs (k + 1)
  rw [e] at h1
  have hvb : 0 ≤ x.f ∧ x.f < x.t ∧ x.t ≤ 1048576 := by unfold valid at hvx; simp at hvx; omega
  repeat refine zq ?_
  refine At.block ?_
  repeat refine zq ?_
  refine zr ?_; conv => whnf
  refine ⟨rfl, ?_⟩; conv => whnf
  refine ⟨by omega, ?_⟩; conv => whnf
  refine ⟨by simp; omega, ?_⟩; conv => whnf
  refine ⟨encS x, ⟨rfl, rfl, by omega, by simp [hx]⟩, ?_⟩; conv => whnf
  intro b; conv => whnf
  repeat refine zq ?_
  refine zr ?_; conv => whnf
  refine ⟨⟨by omega, by omega⟩, ?_⟩; conv => whnf
  refine ⟨⟨by omega, by omega⟩, ?_⟩; conv => whnf
  repeat refine zq ?_
  refine zr ?_; conv => whnf
  refine ⟨⟨by omega, by omega⟩, ?_⟩; conv => whnf
  exact At.nextH fun w' hw => ⟨k + 1, by omega, by omega, Le.of rfl rfl ⟨congrArg (Value.int .i64) e.symm, rfl, rfl, rfl, trivial⟩, hw.keep [0] rfl rfl rfl, ⟨⟨_, _, _, rfl⟩, trivial⟩, ⟨(nopS _).okH, trivial⟩⟩
 ·have hge : k = ys.length := by have := of_decide_eq_false hc; omega
  subst hge
  repeat refine zq ?_
  refine zr ?_; conv => whnf
  repeat refine zq ?_
  refine At.ret (At.doneB tab_ok hB _ rfl fun w' hw => ⟨?_, hw.fr⟩)
  rw [List.take_length]
end Go.Proofs.YtlobacpdhglnkaaGreatDoor
namespace Rt
def comRow (x : Span) (ys : List Span) : List Span := ys.flatMap fun y => if x.m = y.m then [⟨x.m, max x.f y.f, min x.t y.t⟩] else []
def comAll (xs ys : List Span) : List Span := xs.flatMap fun x => comRow x ys
def common (a b : List Span) : List Span := norm (comAll (norm a) (norm b))
def lessOne (y x : Span) : List Span := if x.m = y.m then [⟨x.m, x.f, min x.t y.f⟩, ⟨x.m, max x.f y.t, x.t⟩] else [x]
def lessRow (y : Span) (xs : List Span) : List Span := xs.flatMap (lessOne y)
def lessAll (ys out : List Span) : List Span := ys.foldl (fun out y => norm (lessRow y out)) out
def minus (a b : List Span) : List Span := lessAll (norm b) (norm a)
theorem comRow_len (x : Span) : ∀ ys : List Span, (comRow x ys).length ≤ ys.length
 | [] => by simp [comRow]
 | y :: ys => by
  have ih := comRow_len x ys
  unfold comRow at *
  simp only [List.flatMap_cons, List.length_append, List.length_cons]
  split <;> simp only [List.length_cons, List.length_nil] <;> omega
theorem comAll_len (ys : List Span) : ∀ xs : List Span, (comAll xs ys).length ≤ xs.length * ys.length
 | [] => by simp [comAll]
 | x :: xs => by
  have ih := comAll_len ys xs
  have := comRow_len x ys
  unfold comAll at *
  simp only [List.flatMap_cons, List.length_append, List.length_cons, Nat.add_mul, Nat.one_mul]
  omega
theorem lessRow_len (y : Span) : ∀ xs : List Span, (lessRow y xs).length ≤ 2 * xs.length
 | [] => by simp [lessRow]
 | x :: xs => by
  have ih := lessRow_len y xs
  unfold lessRow at *
  simp only [List.flatMap_cons, List.length_append, List.length_cons]
  have : (lessOne y x).length ≤ 2 := by unfold lessOne; split <;> simp
  omega
theorem norm_len_valid (l : List Span) : (norm l).length ≤ (l.filter valid).length := by
 have key : ∀ (l out : List Span), (l.foldl join out).length ≤ out.length + l.length := by
  intro l
  induction l with
  | nil => intro out; simp
  | cons x l ih =>
   intro out
   have := ih (join out x)
   have : (join out x).length ≤ out.length + 1 := by
    rcases List.eq_nil_or_concat out with rfl | ⟨o, r, rfl⟩
    ·simp [join]
    ·simp only [List.concat_eq_append]; rw [join_snoc]; split <;> simp
   simp only [List.foldl_cons, List.length_cons]; omega
 have h1 := key (isort (l.filter valid)) []
 have h2 := (isort_perm (l.filter valid)).length_eq
 unfold norm joinAll
 simp only [List.length_nil] at h1
 omega
theorem lessOne_valid (y x : Span) : ((lessOne y x).filter valid).length ≤ 2 ∧ (y.f < y.t → ¬ (x.m = y.m ∧ x.f < y.f ∧ y.t < x.t) → ((lessOne y x).filter valid).length ≤ 1) := by
 unfold lessOne
 split
 ·refine ⟨Nat.le_trans (List.length_filter_le ..) (by simp), fun hy h => ?_⟩
  by_cases h1 : x.f < y.f
  ·have h2 : ¬ y.t < x.t := fun h2 => h ⟨by assumption, h1, h2⟩
   have : valid ⟨x.m, max x.f y.t, x.t⟩ = false := by unfold valid; simp; intros; omega
   rw [List.filter_cons, List.filter_cons, this]
   split <;> simp
  ·have : valid ⟨x.m, x.f, min x.t y.f⟩ = false := by unfold valid; simp; intros; omega
   rw [List.filter_cons, List.filter_cons, this]
   simp only [Bool.false_eq_true, if_false]
   split <;> simp
 ·refine ⟨Nat.le_trans (List.length_filter_le ..) (by simp), fun _ _ => Nat.le_trans (List.length_filter_le ..) (by simp)⟩
theorem lessRow_valid {y : Span} (hy : y.f < y.t) : ∀ {xs : List Span}, NF xs → ((lessRow y xs).filter valid).length ≤ xs.length + 1 ∧ ((∀ x ∈ xs, ¬ (x.m = y.m ∧ x.f < y.f ∧ y.t < x.t)) → ((lessRow y xs).filter valid).length ≤ xs.length)
 | [], _ => by simp [lessRow]
 | x :: xs, h => by
  obtain ⟨ih1, ih2⟩ := lessRow_valid hy h.tail
  obtain ⟨o1, o2⟩ := lessOne_valid y x
  have e : lessRow y (x :: xs) = lessOne y x ++ lessRow y xs := by simp [lessRow]
  rw [e, List.filter_append]
  simp only [List.length_append, List.length_cons]
  refine ⟨?_, fun hn => ?_⟩
  ·by_cases hx : x.m = y.m ∧ x.f < y.f ∧ y.t < x.t
   ·have := ih2 fun z hz hz' => by
     have hg := (List.pairwise_cons.1 h.ord).1 z hz
     unfold gap at hg; omega
    omega
   ·have := o2 hy hx; omega
  ·have := o2 hy (hn x (List.mem_cons_self ..))
   have := ih2 fun z hz => hn z (List.mem_cons_of_mem _ hz)
   omega
theorem less_len {y : Span} (hy : y.f < y.t) {xs : List Span} (h : NF xs) : (norm (lessRow y xs)).length ≤ xs.length + 1 := Nat.le_trans (norm_len_valid _) (lessRow_valid hy h).1
theorem norm_nf (l : List Span) : NF (norm l) := (norm_spec l).1
theorem lessAll_len : ∀ {ys out : List Span}, (∀ y ∈ ys, y.f < y.t) → NF out → (lessAll ys out).length ≤ out.length + ys.length
 | [], out, _, _ => by simp [lessAll]
 | y :: ys, out, hy, h => by
  have := lessAll_len (ys := ys) (out := norm (lessRow y out)) (fun z hz => hy z (List.mem_cons_of_mem _ hz)) (norm_nf _)
  have := less_len (hy y (List.mem_cons_self ..)) h
  simp only [lessAll, List.foldl_cons, List.length_cons] at *
  omega
theorem has_norm {l : List Span} {m n : Int} : Has (norm l) m n ↔ ∃ s ∈ l, valid s = true ∧ s.m = m ∧ s.f ≤ n ∧ n < s.t := by
 rw [(norm_spec l).2]
 constructor
 ·rintro ⟨s, hs, h⟩; obtain ⟨h1, h2⟩ := List.mem_filter.1 hs; exact ⟨s, h1, h2, h⟩
 ·rintro ⟨s, h1, h2, h⟩; exact ⟨s, List.mem_filter.2 ⟨h1, h2⟩, h⟩
theorem valid_iff {s : Span} : valid s = true ↔ 0 ≤ s.m ∧ s.m ≤ 1073741824 ∧ 0 ≤ s.f ∧ s.f < s.t ∧ s.t ≤ 1048576 := by
 unfold valid isMark; simp; omega
theorem has_common {a b : List Span} {m n : Int} : Has (common a b) m n ↔ Has (norm a) m n ∧ Has (norm b) m n := by
 unfold common
 rw [has_norm]
 constructor
 ·rintro ⟨s, hs, hv, h⟩
  obtain ⟨x, hx, hs⟩ := List.mem_flatMap.1 hs
  obtain ⟨y, hy, hs⟩ := List.mem_flatMap.1 hs
  split at hs
  ·simp at hs; subst hs; simp only at h
   exact ⟨⟨x, hx, by omega⟩, ⟨y, hy, by omega⟩⟩
  ·cases hs
 ·rintro ⟨⟨x, hx, h1⟩, ⟨y, hy, h2⟩⟩
  have vx := valid_iff.1 (norm_valid x hx)
  have vy := valid_iff.1 (norm_valid y hy)
  refine ⟨⟨x.m, max x.f y.f, min x.t y.t⟩, List.mem_flatMap.2 ⟨x, hx, List.mem_flatMap.2 ⟨y, hy, ?_⟩⟩, valid_iff.2 (by simp only; omega), by simp only; omega⟩
  rw [if_pos (by omega)]; simp
theorem has_less {y : Span} {xs : List Span} {m n : Int} (hy : y.f < y.t) (hv : ∀ x ∈ xs, valid x = true) (hv' : 0 ≤ y.t ∧ y.f ≤ 1048576) : Has (norm (lessRow y xs)) m n ↔ Has xs m n ∧ ¬ (y.m = m ∧ y.f ≤ n ∧ n < y.t) := by
 rw [has_norm]
 constructor
 ·rintro ⟨s, hs, hvs, h⟩
  obtain ⟨x, hx, hs⟩ := List.mem_flatMap.1 hs
  unfold lessOne at hs
  split at hs
  ·simp at hs
   rcases hs with rfl | rfl <;> simp only at h <;> exact ⟨⟨x, hx, by omega⟩, by omega⟩
  ·simp at hs; subst hs
   exact ⟨⟨s, hx, h⟩, by omega⟩
 ·rintro ⟨⟨x, hx, h1⟩, h2⟩
  have vx := valid_iff.1 (hv x hx)
  by_cases hm : x.m = y.m
  ·by_cases hn : n < y.f
   ·refine ⟨⟨x.m, x.f, min x.t y.f⟩, List.mem_flatMap.2 ⟨x, hx, ?_⟩, valid_iff.2 (by simp only; omega), by simp only; omega⟩
    unfold lessOne; rw [if_pos hm]; simp
   ·refine ⟨⟨x.m, max x.f y.t, x.t⟩, List.mem_flatMap.2 ⟨x, hx, ?_⟩, valid_iff.2 (by simp only; omega), by simp only; omega⟩
    unfold lessOne; rw [if_pos hm]; simp
  ·refine ⟨x, List.mem_flatMap.2 ⟨x, hx, ?_⟩, hv x hx, h1⟩
   unfold lessOne; rw [if_neg hm]; simp
theorem lessAll_spec : ∀ {ys out : List Span}, (∀ y ∈ ys, valid y = true) → NF out → (∀ x ∈ out, valid x = true) → NF (lessAll ys out) ∧ (∀ x ∈ lessAll ys out, valid x = true) ∧ ∀ m n, Has (lessAll ys out) m n ↔ Has out m n ∧ ¬ Has ys m n
 | [], out, _, h, hv => ⟨h, hv, fun m n => ⟨fun h => ⟨h, Has.nil⟩, fun h => h.1⟩⟩
 | y :: ys, out, hy, h, hv => by
  obtain ⟨h1, h2, h3⟩ := lessAll_spec (ys := ys) (out := norm (lessRow y out)) (fun z hz => hy z (List.mem_cons_of_mem _ hz)) (norm_nf _) norm_valid
  refine ⟨h1, h2, fun m n => ?_⟩
  have vy := valid_iff.1 (hy y (List.mem_cons_self ..))
  show Has (lessAll ys (norm (lessRow y out))) m n ↔ _
  rw [h3, has_less (by omega) hv (by omega), Has.cons]
  constructor
  ·rintro ⟨⟨a, b⟩, c⟩; exact ⟨a, fun h => h.elim b c⟩
  ·rintro ⟨a, b⟩; exact ⟨⟨a, fun h => b (.inl h)⟩, fun h => b (.inr h)⟩
theorem minus_spec (a b : List Span) : NF (minus a b) ∧ (∀ x ∈ minus a b, valid x = true) ∧ ∀ m n, Has (minus a b) m n ↔ Has (norm a) m n ∧ ¬ Has (norm b) m n :=
 lessAll_spec norm_valid (norm_nf a) norm_valid
theorem nf_empty {l : List Span} (h : NF l) : l.length = 0 ↔ ∀ m n, ¬ Has l m n := by
 constructor
 ·intro h0 m n hh
  rw [List.eq_nil_of_length_eq_zero h0] at hh; exact Has.nil hh
 ·intro hn
  cases l with
  | nil => rfl
  | cons x l =>
   have := h.ne x (List.mem_cons_self ..)
   exact (hn x.m x.f (Has.cons.2 (.inl ⟨rfl, by omega, by omega⟩))).elim
theorem minus_empty (a b : List Span) : (minus a b).length = 0 ↔ ∀ m n, Has (norm a) m n → Has (norm b) m n := by
 rw [nf_empty (minus_spec a b).1]
 constructor
 ·intro h m n h1
  exact Classical.byContradiction fun h2 => h m n (((minus_spec a b).2.2 m n).2 ⟨h1, h2⟩)
 ·intro h m n h1
  obtain ⟨h2, h3⟩ := ((minus_spec a b).2.2 m n).1 h1
  exact h3 (h m n h2)
end Rt
namespace Go.Proofs.YtlobacpdhglnkaaGreatDoor
open Go.Vc Rt Go.Bs
def relAll {α : Type} (T : Ty α) (S : List Nat) (w : World) : List α → List (List CV) → Prop
 | [], [] => True
 | x :: xs, l :: L => (∃ l', dens l' = dens l ∧ T.rel S w x l') ∧ relAll T S w xs L
 | _, _ => False
theorem relAll_len {α : Type} {T : Ty α} {S : List Nat} {w : World} : ∀ {xs : List α} {L : List (List CV)}, relAll T S w xs L → xs.length = L.length
 | [], [], _ => rfl
 | x :: xs, l :: L, h => by simp [relAll_len h.2]
 | [], _ :: _, h => h.elim
 | _ :: _, [], h => h.elim
theorem relAll_get {α : Type} {T : Ty α} {S : List Nat} {w : World} : ∀ {xs : List α} {L : List (List CV)}, relAll T S w xs L → ∀ (i : Nat) x, xs[i]? = some x → ∃ l l', L[i]? = some l ∧ dens l' = dens l ∧ T.rel S w x l'
 | [], [], _, i, x, hx => by simp at hx
 | y :: xs, l :: L, h, 0, x, hx => by
  simp at hx; subst hx
  obtain ⟨l', h1, h2⟩ := h.1
  exact ⟨l, l', rfl, h1, h2⟩
 | y :: xs, l :: L, h, i + 1, x, hx => relAll_get h.2 i x (by simpa using hx)
 | [], _ :: _, h, _, _, _ => h.elim
 | _ :: _, [], h, _, _, _ => h.elim
theorem SlOf.of_rows {α : Type} {T : Ty α} {S : List Nat} {w : World} {v : Value} {E : Nat} {xs : List α} {L : List (List CV)} (h : (LO.row v E T.size L).holds w) (hS : ∀ b ∈ blkOf v, b ∉ S) (hsm : xs.length ≤ 9223372036854775807) (hr : relAll T S w xs L) : SlOf T S w v xs := by
 obtain ⟨a, c, rfl, hlc, hnil⟩ := row_slice h
 have hll := relAll_len hr
 refine ⟨⟨a, L.length, c, rfl, hnil, hlc⟩, ?_, hsm, fun b n c' e hp => ?_, fun i x hx => ?_⟩
 ·cases a with
  | none => simp [slen]; have := (hnil rfl).1; omega
  | some a => simp [slen, hll]
 ·cases e
  refine ⟨hS _ (by simp [blkOf]), ?_⟩
  obtain ⟨⟨_, ⟨he, _⟩ | ⟨g, o, cap, cur, he, hg, _⟩⟩, _⟩ := h
  ·cases he
  ·cases he
   exact (Array.getElem?_eq_some_iff.1 hg).1
 ·obtain ⟨l, l', h1, h2, h3⟩ := relAll_get hr i x hx
  refine ⟨l', h3, fun a' n c' e j u hu => ?_⟩
  rw [h2] at hu
  exact row_cells h h1 a' n c' e j u hu
theorem nilS {b : Nat} : b ∉ ([] : List Nat) := fun h => by cases h
theorem slS {w : World} {v : Value} {E : Nat} (xs : List Span) (h : (LO.row v E 3 (xs.map encS)).holds w) (hl : xs.length ≤ 1000000) : SlOf spT [] w v xs := SlOf.of_row h (fun _ _ => nilS) (by omega)
theorem slI {w : World} {v : Value} {E : Nat} (xs : List Int) (h : (LO.row v E 1 (xs.map encI)).holds w) (hl : xs.length ≤ 1000000) : SlOf intT [] w v xs := SlOf.of_row (enc := fun n => [.i n]) h (fun _ _ => nilS) (by omega)
theorem comAll_snoc {xs ys : List Span} {k : Nat} {x : Span} (hx : xs[k]? = some x) : comAll (xs.take (k + 1)) ys = comAll (xs.take k) ys ++ comRow x ys := by
 rw [List.take_add_one, hx]; simp [comAll]
theorem comRow_snoc {ys : List Span} {k : Nat} {x y : Span} (hy : ys[k]? = some y) : comRow x (ys.take (k + 1)) = comRow x (ys.take k) ++ (if x.m = y.m then [⟨x.m, max x.f y.f, min x.t y.t⟩] else []) := by
 rw [List.take_add_one, hy]; simp [comRow]
theorem common_c (a b : List Span) (S S' : List Nat) (v u : Value) (w : World) (h : SlOf spT S w v a) (h' : SlOf spT S' w u b) (hN : a.length ≤ 1000) (hN' : b.length ≤ 1000) : AnsR Tryz.prog 16 [v, u] [.row 50 3 ((common a b).map encS)] w := by
 replace h := h.avoid (S' := []) (fun b hb => by cases hb)
 replace h' := h'.avoid (S' := []) (fun b hb => by cases hb)
 have hna := norm_len a
 have hnb := norm_len b
 have hcom : common a b = norm (comAll (norm a) (norm b)) := rfl
 rw [hcom]
 refine calls_plainB [.x v, .x u] Tryz.func16 rfl rfl (Nat.le_of_ble_eq_true rfl) rfl fun B hB => ?_
 repeat refine zq ?_
 refine zr ?_; conv => whnf
 repeat refine zq ?_
 refine zr ?_; conv => whnf
 repeat refine zq ?_
 refine zr ?_; conv => whnf
 refine ansR_call b37 (rd1 (nopS (norm a))) (fun w' hw => norm_c a [] v w' (h.fr hw.fr) (by omega)) ?_
 intro v1; conv => whnf
 refine ⟨rfl, ?_⟩; conv => whnf
 generalize norm a = xs at *
 generalize hys : norm b = ys at *
 have hsz : ∀ k, k ≤ xs.length → (comAll (xs.take k) ys).length ≤ 1000000 := fun k hk => by
  have h1 := comAll_len ys (xs.take k)
  have h2 : (xs.take k).length * ys.length ≤ 1000 * 1000 := Nat.mul_le_mul (by simp; omega) (by omega)
  omega
 repeat refine zq ?_
 refine At.block ?_
 refine At.loopH (fun p : Nat × Value => { N := Tryz.f16.ntmps, sl := [(1, some (.x u)), (5, some (.s (.c (.o 1 p.2)))), (11, some (.s (.c (.o 0 v1)))), (12, some (.i xs.length)), (13, some (.i p.1))], gl := [], hp := [(1, .row p.2 50 3 ((comAll (xs.take p.1) ys).map encS)), (0, .row v1 50 3 (xs.map encS))], S := [], ws := w }) (fun p : Nat × Value => p.1 ≤ xs.length) (fun p : Nat × Value => xs.length - p.1)
  (fun w' hw => ⟨(0, .slice none 0 0), Nat.zero_le _, Le.of rfl rfl ⟨rfl, rfl, rfl, congrArg (Value.int .i64) (by simp), rfl, trivial⟩, hw.nil rfl rfl rfl, ⟨⟨_, _, _, rfl⟩, ⟨_, _, _, rfl⟩, trivial⟩, ⟨(nopS _).okH, (nopS _).okH, trivial⟩⟩) ?_
 rintro ⟨k, vo⟩ hk
 simp only at hk ⊢
 repeat refine zq ?_
 refine zr ?_; conv => whnf
 repeat refine zq ?_
 refine At.cond rfl (fun hc => At.skip ?_) (fun hc => At.exit ?_)
 ·have hlt : k < xs.length := by have := of_decide_eq_true hc; (try simp only [List.length_map] at this); omega
  obtain ⟨x, hx⟩ : ∃ x, xs[k]? = some x := ⟨_, List.getElem?_eq_getElem hlt⟩
  have hs1 := hsz (k + 1) hlt
  rw [comAll_snoc hx] at hs1
  have hnx := comAll_snoc (ys := ys) hx
  generalize comAll (xs.take k) ys = out at *
  repeat refine zq ?_
  refine At.block ?_
  repeat refine zq ?_
  refine zr ?_; conv => whnf
  refine ⟨rfl, ?_⟩; conv => whnf
  refine ⟨by omega, ?_⟩; conv => whnf
  refine ⟨by (try simp only [List.length_map]); omega, ?_⟩; conv => whnf
  refine ⟨encS x, ⟨rfl, rfl, by omega, by rw [Int.toNat_natCast, List.getElem?_map, hx]; rfl⟩, ?_⟩; conv => whnf
  intro bx; conv => whnf
  repeat refine zq ?_
  refine zr ?_; conv => whnf
  refine ansR_call b37 (rd1 (nopS (norm b))) (fun w' hw => norm_c b [] u w' (h'.fr hw.fr) (by omega)) ?_
  rw [hys]
  intro v2; conv => whnf
  refine ⟨rfl, ?_⟩; conv => whnf
  repeat refine zq ?_
  refine At.block ?_
  refine At.loopH (fun p : Nat × Value => { N := Tryz.f16.ntmps, sl := [(1, some (.x u)), (5, some (.s (.c (.o 1 p.2)))), (7, some (.s (.c (.p 2 bx 0)))), (11, some (.s (.c (.o 0 v1)))), (12, some (.i xs.length)), (13, some (.i k)), (18, some (.s (.c (.o 3 v2)))), (19, some (.i ys.length)), (20, some (.i p.1))], gl := [], hp := [(3, .row v2 50 3 (ys.map encS)), (2, .box bx 50 (encS x)), (1, .row p.2 50 3 ((out ++ comRow x (ys.take p.1)).map encS)), (0, .row v1 50 3 (xs.map encS))], S := [], ws := w }) (fun p : Nat × Value => p.1 ≤ ys.length) (fun p : Nat × Value => ys.length - p.1)
   (fun w' hw => ⟨(0, vo), Nat.zero_le _, Le.of rfl rfl ⟨rfl, rfl, rfl, rfl, rfl, rfl, rfl, congrArg (Value.int .i64) (by simp), rfl, trivial⟩, hw.keep [3, 2, 1, 0] (by simp [comRow]; rfl) rfl rfl, ⟨⟨_, _, _, rfl⟩, ⟨_, _, rfl⟩, ⟨_, _, _, rfl⟩, ⟨_, _, _, rfl⟩, trivial⟩, ⟨(nopS _).okH, (nopS _).okH, (nopS _).okH, trivial⟩⟩) ?_
  rintro ⟨j, vi⟩ hj
  simp only at hj ⊢
  repeat refine zq ?_
  refine zr ?_; conv => whnf
  repeat refine zq ?_
  refine At.cond rfl (fun hc => At.skip ?_) (fun hc => At.exit ?_)
  ·have hlty : j < ys.length := by have := of_decide_eq_true hc; (try simp only [List.length_map] at this); omega
   obtain ⟨y, hy⟩ : ∃ x, ys[j]? = some x := ⟨_, List.getElem?_eq_getElem hlty⟩
   have hny := comRow_snoc (x := x) hy
   have hcl := comRow_len x (ys.take j)
   simp only [List.length_take, List.length_append] at hcl hs1
   generalize comRow x (ys.take j) = row at *
   repeat refine zq ?_
   refine At.block ?_
   repeat refine zq ?_
   refine zr ?_; conv => whnf
   refine ⟨rfl, ?_⟩; conv => whnf
   refine ⟨by omega, ?_⟩; conv => whnf
   refine ⟨by (try simp only [List.length_map]); omega, ?_⟩; conv => whnf
   refine ⟨encS y, ⟨rfl, rfl, by omega, by rw [Int.toNat_natCast, List.getElem?_map, hy]; rfl⟩, ?_⟩; conv => whnf
   intro by'; conv => whnf
   repeat refine zq ?_
   refine zr ?_; conv => whnf
   repeat refine zq ?_
   refine At.cond rfl (fun hq => ?_) (fun hq => ?_)
   ·have hm : x.m = y.m := of_decide_eq_true hq
    repeat refine zq ?_
    refine zr ?_; conv => whnf
    intro v3; conv => whnf
    refine ⟨rfl, ?_⟩; conv => whnf
    refine ⟨⟨rfl, by simp; omega⟩, ?_⟩; conv => whnf
    intro v4; conv => whnf
    repeat refine zq ?_
    refine zr ?_; conv => whnf
    refine ⟨⟨by omega, by omega⟩, ?_⟩; conv => whnf
    refine At.nextH fun w' hw => ⟨(j + 1, v4), by simp only; omega, by simp only; omega, Le.of rfl rfl ⟨rfl, rfl, rfl, rfl, rfl, rfl, rfl, rfl, rfl, trivial⟩, hw.keep [3, 2, 1, 0] ?_ rfl rfl, ⟨⟨_, _, _, rfl⟩, ⟨_, _, rfl⟩, ⟨_, _, _, rfl⟩, ⟨_, _, _, rfl⟩, trivial⟩, ⟨(nopS _).okH, (nopS _).okH, (nopS _).okH, trivial⟩⟩
    show [(3, LO.row _ _ _ _), (2, LO.box _ _ _), (1, LO.row _ _ _ _), (0, LO.row _ _ _ _)] = [(3, LO.row _ _ _ _), (2, LO.box _ _ _), (1, LO.row _ _ _ _), (0, LO.row _ _ _ _)]
    rw [hny, if_pos hm, ← List.append_assoc, List.map_append (l₁ := out ++ row)]
    rfl
   ·have hm : ¬ x.m = y.m := of_decide_eq_false hq
    refine At.skip ?_
    repeat refine zq ?_
    refine zr ?_; conv => whnf
    refine ⟨⟨by omega, by omega⟩, ?_⟩; conv => whnf
    refine At.nextH fun w' hw => ⟨(j + 1, vi), by simp only; omega, by simp only; omega, Le.of rfl rfl ⟨rfl, rfl, rfl, rfl, rfl, rfl, rfl, rfl, rfl, trivial⟩, hw.keep [3, 2, 1, 0] ?_ rfl rfl, ⟨⟨_, _, _, rfl⟩, ⟨_, _, rfl⟩, ⟨_, _, _, rfl⟩, ⟨_, _, _, rfl⟩, trivial⟩, ⟨(nopS _).okH, (nopS _).okH, (nopS _).okH, trivial⟩⟩
    show [(3, LO.row _ _ _ _), (2, LO.box _ _ _), (1, LO.row _ _ _ _), (0, LO.row _ _ _ _)] = [(3, LO.row _ _ _ _), (2, LO.box _ _ _), (1, LO.row _ _ _ _), (0, LO.row _ _ _ _)]
    rw [hny, if_neg hm, List.append_nil]
  ·have hge : j = ys.length := by have := of_decide_eq_false hc; omega
   subst hge
   repeat refine zq ?_
   refine zr ?_; conv => whnf
   refine ⟨⟨by omega, by omega⟩, ?_⟩; conv => whnf
   refine At.nextH fun w' hw => ⟨(k + 1, vi), by simp only; omega, by simp only; omega, Le.of rfl rfl ⟨rfl, rfl, rfl, rfl, rfl, trivial⟩, hw.keep [1, 0] ?_ rfl rfl, ⟨⟨_, _, _, rfl⟩, ⟨_, _, _, rfl⟩, trivial⟩, ⟨(nopS _).okH, (nopS _).okH, trivial⟩⟩
   show [(1, LO.row _ _ _ _), (0, LO.row _ _ _ _)] = [(1, LO.row _ _ _ _), (0, LO.row _ _ _ _)]
   rw [hnx, List.take_length]
 ·have hge : k = xs.length := by have := of_decide_eq_false hc; omega
  subst hge
  have hs1 := hsz xs.length (Nat.le_refl _)
  rw [List.take_length] at hs1 ⊢
  repeat refine zq ?_
  refine zr ?_; conv => whnf
  refine ansR_call b37 (rd1 (nopS _)) (fun w' hw => norm_c _ [] vo w' (slS _ (hw.row (id := 1) rfl) (by omega)) (by omega)) ?_
  intro v5; conv => whnf
  repeat refine zq ?_
  refine At.ret (At.doneB tab_ok hB _ rfl fun w' hw => ansR_row (id := 2) hw rfl rfl rfl)
theorem lessRow_snoc {y : Span} {xs : List Span} {k : Nat} {x : Span} (hx : xs[k]? = some x) : lessRow y (xs.take (k + 1)) = lessRow y (xs.take k) ++ lessOne y x := by
 rw [List.take_add_one, hx]; simp [lessRow]
theorem lessAll_snoc {ys out : List Span} {k : Nat} {y : Span} (hy : ys[k]? = some y) : lessAll (ys.take (k + 1)) out = norm (lessRow y (lessAll (ys.take k) out)) := by
 rw [List.take_add_one, hy]; simp [lessAll]
theorem minus_c (a b : List Span) (S S' : List Nat) (v u : Value) (w : World) (h : SlOf spT S w v a) (h' : SlOf spT S' w u b) (hN : a.length ≤ 100000) (hN' : b.length ≤ 100000) : AnsR Tryz.prog 8 [v, u] [.row 50 3 ((minus a b).map encS)] w := by
 replace h := h.avoid (S' := []) (fun b hb => by cases hb)
 replace h' := h'.avoid (S' := []) (fun b hb => by cases hb)
 have hna := norm_len a
 have hnb := norm_len b
 have hcom : minus a b = lessAll (norm b) (norm a) := rfl
 have hnfa := norm_nf a
 have hvb : ∀ y ∈ norm b, y.f < y.t := fun y hy => valid_lt (norm_valid y hy)
 have hvb' := norm_valid (l := b)
 have hva' := norm_valid (l := a)
 rw [hcom]
 refine calls_plainB [.x v, .x u] Tryz.func8 rfl rfl (Nat.le_of_ble_eq_true rfl) rfl fun B hB => ?_
 repeat refine zq ?_
 refine zr ?_; conv => whnf
 repeat refine zq ?_
 refine zr ?_; conv => whnf
 refine ansR_call b37 (rd1 (nopS (norm a))) (fun w' hw => norm_c a [] v w' (h.fr hw.fr) (by omega)) ?_
 intro v1; conv => whnf
 repeat refine zq ?_
 refine zr ?_; conv => whnf
 refine ansR_call b37 (rd1 (nopS (norm b))) (fun w' hw => norm_c b [] u w' (h'.fr hw.fr) (by omega)) ?_
 intro v2; conv => whnf
 refine ⟨rfl, ?_⟩; conv => whnf
 generalize norm a = xs at *
 generalize norm b = ys at *
 have hsz : ∀ k, (lessAll (ys.take k) xs).length ≤ 200000 ∧ NF (lessAll (ys.take k) xs) := fun k => by
  have h1 := lessAll_len (ys := ys.take k) (out := xs) (fun y hy => hvb y (List.mem_of_mem_take hy)) hnfa
  have h2 : (ys.take k).length ≤ ys.length := by simp; omega
  exact ⟨by omega, (lessAll_spec (fun y hy => hvb' y (List.mem_of_mem_take hy)) hnfa hva').1⟩
 repeat refine zq ?_
 refine At.block ?_
 refine At.loopH (fun p : Nat × Value => { N := Tryz.f8.ntmps, sl := [(5, some (.s (.c (.o 0 p.2)))), (14, some (.s (.c (.o 1 v2)))), (15, some (.i ys.length)), (16, some (.i p.1))], gl := [], hp := [(0, .row p.2 50 3 ((lessAll (ys.take p.1) xs).map encS)), (1, .row v2 50 3 (ys.map encS))], S := [], ws := w }) (fun p : Nat × Value => p.1 ≤ ys.length) (fun p : Nat × Value => ys.length - p.1)
  (fun w' hw => ⟨(0, v1), Nat.zero_le _, Le.of rfl rfl ⟨rfl, rfl, congrArg (Value.int .i64) (by simp), rfl, trivial⟩, hw.perm (.swap _ _ _) rfl rfl, ⟨⟨_, _, _, rfl⟩, ⟨_, _, _, rfl⟩, trivial⟩, ⟨(nopS _).okH, (nopS _).okH, trivial⟩⟩) ?_
 rintro ⟨k, vo⟩ hk
 simp only at hk ⊢
 repeat refine zq ?_
 refine zr ?_; conv => whnf
 repeat refine zq ?_
 refine At.cond rfl (fun hc => At.skip ?_) (fun hc => At.exit ?_)
 ·have hlty : k < ys.length := by have := of_decide_eq_true hc; (try simp only [List.length_map] at this); omega
  obtain ⟨y, hy⟩ : ∃ x, ys[k]? = some x := ⟨_, List.getElem?_eq_getElem hlty⟩
  obtain ⟨hl1, hnf⟩ := hsz k
  have hnx := lessAll_snoc (out := xs) hy
  generalize lessAll (ys.take k) xs = out at *
  have hrl := lessRow_len y out
  repeat refine zq ?_
  refine At.block ?_
  repeat refine zq ?_
  refine zr ?_; conv => whnf
  refine ⟨rfl, ?_⟩; conv => whnf
  refine ⟨by omega, ?_⟩; conv => whnf
  refine ⟨by (try simp only [List.length_map]); omega, ?_⟩; conv => whnf
  refine ⟨encS y, ⟨rfl, rfl, by omega, by rw [Int.toNat_natCast, List.getElem?_map, hy]; rfl⟩, ?_⟩; conv => whnf
  intro bx; conv => whnf
  repeat refine zq ?_
  refine zr ?_; conv => whnf
  repeat refine zq ?_
  refine zr ?_; conv => whnf
  refine ⟨rfl, ?_⟩; conv => whnf
  repeat refine zq ?_
  refine At.block ?_
  refine At.loopH (fun p : Nat × Value => { N := Tryz.f8.ntmps, sl := [(5, some (.s (.c (.o 0 vo)))), (7, some (.s (.c (.p 2 bx 0)))), (8, some (.s (.c (.o 3 p.2)))), (14, some (.s (.c (.o 1 v2)))), (15, some (.i ys.length)), (16, some (.i k)), (20, some (.s (.c (.o 0 vo)))), (21, some (.i out.length)), (22, some (.i p.1))], gl := [], hp := [(3, .row p.2 50 3 ((lessRow y (out.take p.1)).map encS)), (2, .box bx 50 (encS y)), (0, .row vo 50 3 (out.map encS)), (1, .row v2 50 3 (ys.map encS))], S := [], ws := w }) (fun p : Nat × Value => p.1 ≤ out.length) (fun p : Nat × Value => out.length - p.1)
   (fun w' hw => ⟨(0, .slice none 0 0), Nat.zero_le _, Le.of rfl rfl ⟨rfl, rfl, rfl, rfl, rfl, rfl, rfl, congrArg (Value.int .i64) (by simp), rfl, trivial⟩, hw.nil rfl rfl rfl, ⟨⟨_, _, _, rfl⟩, ⟨_, _, rfl⟩, ⟨_, _, _, rfl⟩, ⟨_, _, _, rfl⟩, ⟨_, _, _, rfl⟩, trivial⟩, ⟨(nopS _).okH, (nopS _).okH, (nopS _).okH, trivial⟩⟩) ?_
  rintro ⟨j, vi⟩ hj
  simp only at hj ⊢
  repeat refine zq ?_
  refine zr ?_; conv => whnf
  repeat refine zq ?_
  refine At.cond rfl (fun hc => At.skip ?_) (fun hc => At.exit ?_)
  ·have hlt : j < out.length := by have := of_decide_eq_true hc; (try simp only [List.length_map] at this); omega
   obtain ⟨x, hx⟩ : ∃ x, out[j]? = some x := ⟨_, List.getElem?_eq_getElem hlt⟩
   have hny := lessRow_snoc (y := y) hx
   have hcl := lessRow_len y (out.take j)
   simp only [List.length_take] at hcl
   generalize lessRow y (out.take j) = row at *
   repeat refine zq ?_
   refine At.block ?_
   repeat refine zq ?_
   refine zr ?_; conv => whnf
   refine ⟨rfl, ?_⟩; conv => whnf
   refine ⟨by omega, ?_⟩; conv => whnf
   refine ⟨by (try simp only [List.length_map]); omega, ?_⟩; conv => whnf
   refine ⟨encS x, ⟨rfl, rfl, by omega, by rw [Int.toNat_natCast, List.getElem?_map, hx]; rfl⟩, ?_⟩; conv => whnf
   intro by'; conv => whnf
   repeat refine zq ?_
   refine zr ?_; conv => whnf
   repeat refine zq ?_
   refine At.cond rfl (fun hq => ?_) (fun hq => ?_)
   ·have hm : ¬ x.m = y.m := by simpa using hq
    repeat refine zq ?_
    refine zr ?_; conv => whnf
    intro v3; conv => whnf
    refine ⟨rfl, ?_⟩; conv => whnf
    refine ⟨⟨rfl, by simp; omega⟩, ?_⟩; conv => whnf
    intro v4; conv => whnf
    refine At.exit ?_
    repeat refine zq ?_
    refine zr ?_; conv => whnf
    refine ⟨⟨by omega, by omega⟩, ?_⟩; conv => whnf
    refine At.nextH fun w' hw => ⟨(j + 1, v4), by simp only; omega, by simp only; omega, Le.of rfl rfl ⟨rfl, rfl, rfl, rfl, rfl, rfl, rfl, rfl, rfl, trivial⟩, hw.keep [3, 2, 0, 1] ?_ rfl rfl, ⟨⟨_, _, _, rfl⟩, ⟨_, _, rfl⟩, ⟨_, _, _, rfl⟩, ⟨_, _, _, rfl⟩, ⟨_, _, _, rfl⟩, trivial⟩, ⟨(nopS _).okH, (nopS _).okH, (nopS _).okH, trivial⟩⟩
    show [(3, LO.row _ _ _ _), (2, LO.box _ _ _), (0, LO.row _ _ _ _), (1, LO.row _ _ _ _)] = [(3, LO.row _ _ _ _), (2, LO.box _ _ _), (0, LO.row _ _ _ _), (1, LO.row _ _ _ _)]
    rw [hny, lessOne, if_neg hm, List.map_append (l₁ := row)]
    rfl
   ·have hm : x.m = y.m := by simpa using hq
    refine At.skip ?_
    repeat refine zq ?_
    refine zr ?_; conv => whnf
    intro v3; conv => whnf
    refine ⟨rfl, ?_⟩; conv => whnf
    refine ⟨⟨rfl, by simp; omega⟩, ?_⟩; conv => whnf
    intro v4; conv => whnf
    repeat refine zq ?_
    refine zr ?_; conv => whnf
    refine ⟨⟨by omega, by omega⟩, ?_⟩; conv => whnf
    refine At.nextH fun w' hw => ⟨(j + 1, v4), by simp only; omega, by simp only; omega, Le.of rfl rfl ⟨rfl, rfl, rfl, rfl, rfl, rfl, rfl, rfl, rfl, trivial⟩, hw.keep [3, 2, 0, 1] ?_ rfl rfl, ⟨⟨_, _, _, rfl⟩, ⟨_, _, rfl⟩, ⟨_, _, _, rfl⟩, ⟨_, _, _, rfl⟩, ⟨_, _, _, rfl⟩, trivial⟩, ⟨(nopS _).okH, (nopS _).okH, (nopS _).okH, trivial⟩⟩
    show [(3, LO.row _ _ _ _), (2, LO.box _ _ _), (0, LO.row _ _ _ _), (1, LO.row _ _ _ _)] = [(3, LO.row _ _ _ _), (2, LO.box _ _ _), (0, LO.row _ _ _ _), (1, LO.row _ _ _ _)]
    rw [hny, lessOne, if_pos hm, List.map_append (l₁ := row)]
    rfl
  ·have hge : j = out.length := by have := of_decide_eq_false hc; omega
   subst hge
   rw [List.take_length]
   repeat refine zq ?_
   refine zr ?_; conv => whnf
   refine ansR_call b37 (rd1 (nopS _)) (fun w' hw => norm_c _ [] vi w' (slS _ (hw.row (id := 3) rfl) (by omega)) (by omega)) ?_
   intro v5; conv => whnf
   repeat refine zq ?_
   refine zr ?_; conv => whnf
   refine ⟨⟨by omega, by omega⟩, ?_⟩; conv => whnf
   refine At.nextH fun w' hw => ⟨(k + 1, v5), by simp only; omega, by simp only; omega, Le.of rfl rfl ⟨rfl, rfl, rfl, rfl, trivial⟩, hw.ren [4,1] ((by rw [hnx]; rfl)) rfl rfl, ⟨⟨_, _, _, rfl⟩, ⟨_, _, _, rfl⟩, trivial⟩, ⟨(nopS _).okH, (nopS _).okH, trivial⟩⟩
 ·have hge : k = ys.length := by have := of_decide_eq_false hc; omega
  subst hge
  rw [List.take_length]
  repeat refine zq ?_
  refine zr ?_; conv => whnf
  repeat refine zq ?_
  refine At.ret (At.doneB tab_ok hB _ rfl fun w' hw => ansR_row (id := 0) hw rfl rfl rfl)
end Go.Proofs.YtlobacpdhglnkaaGreatDoor
namespace Go.Proofs.YtlobacpdhglnkaaGreatDoor
open Go.Vc Rt Go.Bs
def inSpan (m n : Int) (s : Span) : Bool := valid s && (decide (s.m = m) && (decide (s.f ≤ n) && decide (n < s.t)))
def hasS (l : List Span) (m n : Int) : Bool := l.any (inSpan m n)
theorem idx_any {α : Type} (p : α → Bool) (xs : List α) : decide (0 ≤ idxOf p xs) = xs.any p := by
 unfold idxOf
 split
 ·rename_i i h
  rw [List.findIdx?_eq_some_iff_getElem] at h
  obtain ⟨h1, h2, _⟩ := h
  rw [decide_eq_true (by omega)]
  exact (List.any_eq_true.2 ⟨_, List.getElem_mem h1, h2⟩).symm
 ·rename_i h
  rw [decide_eq_false (by omega)]
  rw [List.findIdx?_eq_none_iff] at h
  refine (Bool.eq_false_iff.2 fun hc => ?_).symm
  obtain ⟨x, hx, hp⟩ := List.any_eq_true.1 hc
  rw [h x hx] at hp; cases hp
theorem containsS_c (xs : List Span) (S : List Nat) (v : Value) (w : World) (h : SlOf spT S w v xs) (g : Nat) (caps : Array Value) (p : Span → Bool) (hg : Body Tryz.prog g)
  (hf : ∀ x ∈ xs, ∀ w', Ext w w' → Ans Tryz.prog g (vS x :: caps.toList) (.b (p x)) w') : Ans Tryz.prog 111 [v, .func (.func g) #[] caps] (.b (xs.any p)) w := by
 replace h := h.avoid (S' := []) (fun b hb => by cases hb)
 refine calls_plainB [.x v, .x (.func (.func g) #[] caps)] Tryz.func111 rfl rfl (Nat.le_of_ble_eq_true rfl) rfl fun B hB => ?_
 repeat refine zq ?_
 refine zr ?_; conv => whnf
 repeat refine zq ?_
 refine zr ?_; conv => whnf
 refine ans_call b126 rfl (fun w' hw => indexS_c xs [] v w' (h.fr hw.fr) g caps p hg (fun x hx w'' hx' => hf x hx w'' (hw.fr.trans hx'))) ?_; conv => whnf
 repeat refine zq ?_
 refine At.ret (At.doneB tab_ok hB _ rfl fun w' hw => ⟨?_, hw.fr⟩)
 rw [← idx_any]
theorem has1_c (s : Span) (m n : Int) (bm bn : Nat) (w : World) (hm : (LO.box bm 3 [.i m]).holds w) (hn : (LO.box bn 3 [.i n]).holds w) (hne : bm ≠ bn) : Ans Tryz.prog 112 [vS s, ptr bm, ptr bn] (.b (inSpan m n s)) w := by
 have hh : Holds (St.enter Tryz.f112.ntmps [.s (.agg (encS s)), .s (.c (.p 0 bm 0)), .s (.c (.p 1 bn 0))] [(0, .box bm 3 [.i m]), (1, .box bn 3 [.i n])] [bm, bn] w) w := enter_objs (fun o ho => by simp at ho; rcases ho with rfl | rfl; exact hm; exact hn) (by simp [LO.blks, hne])
 refine calls_atB _ _ _ Tryz.func112 rfl rfl (Nat.le_of_ble_eq_true rfl) (WF.objs hh ⟨⟨_, _, rfl⟩, ⟨_, _, rfl⟩, trivial⟩ trivial) hh fun B hB => ?_
 repeat refine zq ?_
 refine zr ?_; conv => whnf
 intro b1; conv => whnf
 repeat refine zq ?_
 refine zr ?_; conv => whnf
 refine ans_call b38 rfl (fun w' hw => valid_c s w') ?_; conv => whnf
 repeat refine zq ?_
 refine At.ret (At.doneB tab_ok hB _ rfl fun w' hw => ⟨?_, hw.fr.ext fun c hc => ?_⟩)
 ·simp only [RV.den, SV.den, CV.den, band, inSpan, Bool.and_assoc]
 ·rcases List.mem_cons.1 hc with rfl | hc
  ·exact (hw.box (id := 0) rfl).trans hm.symm
  ·rw [List.mem_singleton.1 hc]; exact (hw.box (id := 1) rfl).trans hn.symm
theorem has_c (xs : List Span) (m n : Int) (S : List Nat) (v : Value) (w : World) (h : SlOf spT S w v xs) : Ans Tryz.prog 67 [v, vI m, vI n] (.b (hasS xs m n)) w := by
 replace h := h.avoid (S' := []) (fun b hb => by cases hb)
 refine calls_plainB [.x v, .i m, .i n] Tryz.func67 rfl rfl (Nat.le_of_ble_eq_true rfl) rfl fun B hB => ?_
 repeat refine zq ?_
 refine zr ?_; conv => whnf
 intro bm; conv => whnf
 intro bn; conv => whnf
 repeat refine zq ?_
 refine zr ?_; conv => whnf
 refine ans_call b111 rfl (fun w' hw => containsS_c xs [] v w' (h.fr hw.fr) 112 #[ptr bm, ptr bn] (inSpan m n) b112 (fun x _ w'' hx => has1_c x m n bm bn w'' (LO.holds_ext hx (hw.objs (0, .box bm 3 [.i m]) (by simp))) (LO.holds_ext hx (hw.objs (1, .box bn 3 [.i n]) (by simp)))
  (fun e => apart_of hw.nodup (i := 0) (j := 1) rfl rfl (by decide) bm (by simp [LO.blks]) (by simp [LO.blks, e])))) ?_
 conv => whnf
 repeat refine zq ?_
 refine At.ret (At.doneB tab_ok hB _ rfl fun w' hw => ⟨rfl, hw.fr⟩)
end Go.Proofs.YtlobacpdhglnkaaGreatDoor
namespace Go.Proofs.YtlobacpdhglnkaaGreatDoor
open Go.Vc Rt Go.Bs
theorem key_c (n : Int) (w : World) : Ans Tryz.prog 140 [vI n] (.b (isKeyB n)) w := isKey_c n w
theorem day_c (n : Int) (w : World) : Ans Tryz.prog 141 [vI n] (.b (isDayB n)) w := by
 refine calls_plainB [.i n] Tryz.func141 rfl rfl (Nat.le_of_ble_eq_true rfl) rfl fun B hB => ?_
 repeat refine zq ?_
 refine zr ?_; conv => whnf
 repeat refine zq ?_
 refine zr ?_; conv => whnf
 repeat refine zq ?_
 refine At.ret (At.doneB tab_ok hB _ rfl fun w' hw => ⟨?_, hw.fr⟩)
 simp only [RV.den, SV.den, CV.den, band, isDayB]
theorem asc_c (xs : List Int) (S : List Nat) (v : Value) (w : World) (h : SlOf intT S w v xs) : Ans Tryz.prog 143 [v] (.b (ascB xs)) w := by
 replace h := h.avoid (S' := []) (fun b hb => by cases hb)
 have hsm := h.small
 refine calls_plainB [.x v] Tryz.func143 rfl rfl (Nat.le_of_ble_eq_true rfl) rfl fun B hB => ?_
 repeat refine zq ?_
 refine zr ?_; conv => whnf
 repeat refine zq ?_
 refine zr ?_; conv => whnf
 repeat refine zq ?_
 refine At.block ?_
 refine At.loopF (fun k : Nat => { N := Tryz.f143.ntmps, sl := [(0, some (.x v)), (3, some (.i k))], gl := [], hp := [], S := [], ws := w }) (fun k => 1 ≤ k ∧ (k ≤ xs.length ∨ k = 1) ∧ ∀ j, j < k → ascAt xs j = true) (fun k => xs.length + 1 - k)
  (fun w' hw => ⟨1, ⟨Nat.le_refl _, .inr rfl, fun j hj => by obtain rfl : j = 0 := (by omega); unfold ascAt; split <;> rfl⟩, Le.of rfl rfl ⟨rfl, rfl, trivial⟩, WF.plain rfl, hw.same rfl rfl rfl⟩) ?_
 intro k ⟨hk, hk1, hall⟩
 repeat refine zq ?_
 refine zr ?_; conv => whnf
 refine ⟨h.sl, ?_⟩; conv => whnf
 repeat refine zq ?_
 refine At.cond rfl (fun hc => At.skip ?_) (fun hc => At.exit ?_)
 ·have hlt : k < xs.length := by have := of_decide_eq_true hc; rw [h.len] at this; omega
  obtain ⟨x, hx⟩ : ∃ x, xs[k]? = some x := ⟨_, List.getElem?_eq_getElem hlt⟩
  obtain ⟨y, hy⟩ : ∃ y, xs[k - 1]? = some y := ⟨_, List.getElem?_eq_getElem (by omega)⟩
  have hln := h.len
  have hat : ascAt xs k = decide (y < x) := by unfold ascAt; rw [hx, hy]; simp only; rw [show (k == 0) = false by simp; omega]; rfl
  repeat refine zq ?_
  refine At.block ?_
  repeat refine zq ?_
  refine At.draw tab_ok mixed (by kernel_rfl) ?_; conv => whnf
  refine ⟨by omega, ?_⟩; conv => whnf
  refine ⟨by rw [h.len]; omega, ?_⟩; conv => whnf
  refine ⟨[.i x], fun w' hw => h.load (n := 1) hw.fr hx rfl, ?_⟩; conv => whnf
  refine ⟨⟨by omega, by omega⟩, ?_⟩; conv => whnf
  refine ⟨by omega, ?_⟩; conv => whnf
  refine ⟨by rw [h.len]; omega, ?_⟩; conv => whnf
  refine ⟨[.i y], fun w' hw => h.loadI (n := 1) hw.fr (by omega) (by rw [← hy]; congr 1; omega) rfl, ?_⟩; conv => whnf
  repeat refine zq ?_
  refine At.cond rfl (fun hq => ?_) (fun hq => ?_)
  ·repeat refine zq ?_
   refine zr ?_; conv => whnf
   repeat refine zq ?_
   refine At.ret (At.doneB tab_ok hB _ rfl fun w' hw => ⟨?_, hw.fr⟩)
   have hq := of_decide_eq_true hq
   rw [ascB_false hlt (by rw [hat]; exact decide_eq_false (by omega))]
  ·refine At.skip ?_
   have hq := of_decide_eq_false hq
   repeat refine zq ?_
   refine zr ?_; conv => whnf
   refine ⟨⟨by omega, by omega⟩, ?_⟩; conv => whnf
   refine At.next fun w' hw => ⟨k + 1, ⟨by omega, by omega, fun j hj => ?_⟩, by omega, Le.of rfl rfl ⟨rfl, rfl, trivial⟩, WF.plain rfl, hw.keep [] rfl rfl rfl⟩
   rcases Nat.lt_or_ge j k with hj' | hj'
   ·exact hall j hj'
   ·obtain rfl : j = k := by omega
    rw [hat]; exact decide_eq_true (by omega)
 ·have hge : xs.length ≤ k := by have := of_decide_eq_false hc; rw [h.len] at this; omega
  repeat refine zq ?_
  refine zr ?_; conv => whnf
  repeat refine zq ?_
  refine At.ret (At.doneB tab_ok hB _ rfl fun w' hw => ⟨?_, hw.fr⟩)
  rw [ascB_true fun j hj => hall j (by omega)]
theorem getD_some {xs : List Int} {i : Nat} (h : i < xs.length) : xs[i]? = some (xs.getD i 0) := by
 rw [List.getElem?_eq_getElem h, List.getD_eq_getElem?_getD, List.getElem?_eq_getElem h]; rfl
theorem keys_c (xs : List Int) (S : List Nat) (v : Value) (w : World) (h : SlOf intT S w v xs) : Ans Tryz.prog 144 [v] (.b (keysB xs)) w := by
 replace h := h.avoid (S' := []) (fun b hb => by cases hb)
 have hsm := h.small
 have hln := h.len
 refine calls_plainB [.x v] Tryz.func144 rfl rfl (Nat.le_of_ble_eq_true rfl) rfl fun B hB => ?_
 repeat refine zq ?_
 refine zr ?_; conv => whnf
 repeat refine zq ?_
 refine zr ?_; conv => whnf
 refine ⟨h.sl, ?_⟩; conv => whnf
 refine ⟨by simp only [gimp]; intro _; exact h.sl, ?_⟩; conv => whnf
 refine ⟨.b (ascB xs), by simp only [gimp]; intro _; exact ans_quiet b143 (fun w' hw => asc_c xs [] v w' (h.fr hw.fr)), ?_⟩; conv => whnf
 refine ⟨by simp only [gimp]; intro h1; omega, ?_⟩; conv => whnf
 refine ⟨by simp only [gimp]; intro h1; simp at h1; omega, ?_⟩; conv => whnf
 refine ⟨[.i (xs.getD 0 0)], by simp only [gimp]; intro h1 w' hw; simp at h1; exact h.loadI (n := 1) hw.fr (by omega) (getD_some (i := 0) (by omega)) rfl, ?_⟩; conv => whnf
 refine ⟨.b (isKeyB (xs.getD 0 0)), by simp only [gimp]; intro _; exact ans_quiet b140 (fun w' hw => key_c _ w'), ?_⟩; conv => whnf
 refine ⟨by simp only [gimp]; intro _; exact h.sl, ?_⟩; conv => whnf
 refine ⟨by simp only [gimp]; intro h1; simp at h1; exact ⟨by omega, by omega⟩, ?_⟩; conv => whnf
 refine ⟨by simp only [gimp]; intro h1; simp at h1; omega, ?_⟩; conv => whnf
 refine ⟨by simp only [gimp]; intro h1; simp at h1; omega, ?_⟩; conv => whnf
 refine ⟨[.i (xs.getD (xs.length - 1) 0)], by simp only [gimp]; intro h1 w' hw; simp at h1; exact h.loadI (n := 1) hw.fr (by omega) (by rw [← getD_some (by omega)]; congr 1; omega) rfl, ?_⟩; conv => whnf
 refine ⟨.b (isKeyB (xs.getD (xs.length - 1) 0)), by simp only [gimp]; intro _; exact ans_quiet b140 (fun w' hw => key_c _ w'), ?_⟩; conv => whnf
 repeat refine zq ?_
 refine At.ret (At.doneB tab_ok hB _ rfl fun w' hw => ⟨?_, hw.fr⟩)
 simp only [RV.den, SV.den, CV.den, band, keysB, hln, Int.natCast_pos]
 rw [show decide ((xs.length : Int) ≤ 60) = decide (xs.length ≤ 60) by rw [decide_eq_decide]; omega]
end Go.Proofs.YtlobacpdhglnkaaGreatDoor
