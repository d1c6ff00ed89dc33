/- Walks: slices.SortFunc at spans. -/
import Derived.Test.YtjilbkioieicbaaW5
import Derived.Test.YtjilbkioieicbaaSx
namespace Go.Proofs.Ytjilbkioieicbaa
open Go.Vc Rt
set_option linter.unusedVariables false
set_option linter.unusedSimpArgs false
def encVS (s : Span) : List Value := [.int .i64 s.m, .int .i64 s.f, .int .i64 s.t]
theorem Ext.grow {w w' : World} (h : Ext w w') : ∃ q os', w' = Sort.grow (w.drewN q) os' := by
  refine ⟨w'.drawn - w.drawn, w'.heap.extract w.heap.size w'.heap.size, ?_⟩
  obtain ⟨heap, tape, drawn, os, output⟩ := w
  obtain ⟨heap', tape', drawn', os', output'⟩ := w'
  obtain ⟨h1, h2, h3, h4, h5, h6⟩ := h
  simp only at h1 h2 h3 h4 h5 h6
  subst h1 h2 h3
  have e : heap' = heap ++ heap'.extract heap.size heap'.size := by
    apply Array.ext_getElem?
    intro k
    rw [Array.getElem?_append]
    split
    · rename_i hk; exact h5 k hk (by simp)
    · rename_i hk
      rw [Array.getElem?_extract]
      split
      · rename_i hk2; congr 1; omega
      · rename_i hk2; rw [Array.getElem?_eq_none (by omega)]
  simp only [Sort.grow, World.drewN, World.mk.injEq]
  exact ⟨e, trivial, by omega, trivial, trivial⟩
theorem cmpS_lays (blk off size : Nat) (w : World) : CmpLays Try.prog 100 #[] encVS 3 cmpS blk off size w := by
  intro m os dk hs x y
  exact (norm2_c x y _).mono fun e w' ⟨he, hx⟩ => ⟨he, Ext.grow hx⟩
def ltS (a b : Span) : Prop := a.m < b.m ∨ (a.m = b.m ∧ a.f < b.f)
theorem cmpI_neg {x y : Int} : cmpI x y < 0 ↔ x < y := by unfold cmpI; split <;> (try split) <;> omega
theorem cmpI_zero {x y : Int} : cmpI x y = 0 ↔ x = y := by unfold cmpI; split <;> (try split) <;> omega
theorem ltOf_cmpS (a b : Span) : ltOf cmpS a b = true ↔ ltS a b := by
  unfold ltOf cmpS orI ltS
  rw [decide_eq_true_iff]
  by_cases h : cmpI a.m b.m = 0
  · have e := cmpI_zero.1 h
    by_cases h2 : cmpI a.f b.f = 0
    · have e2 := cmpI_zero.1 h2
      simp [h, h2]; omega
    · simp [h, h2, cmpI_neg]; omega
  · have e : a.m ≠ b.m := fun e => h (cmpI_zero.2 e)
    simp [h, cmpI_neg]; omega
theorem swoS : Sort.SWO (ltOf cmpS) where
  irrefl x := by
    rw [← Bool.not_eq_true, ltOf_cmpS]; unfold ltS; omega
  trans x y z h1 h2 := by rw [ltOf_cmpS] at *; unfold ltS at *; omega
  ntrans x y z h1 h2 := by rw [← Bool.not_eq_true, ltOf_cmpS] at *; unfold ltS at *; omega
theorem flatK_get (d : Array Span) {j : Nat} (hj : j < d.size * 3) : (dens (d.toList.map encS).flatten)[j]? = some (Sort.flatK encVS 3 d)[j]! := by
  have hlr : ∀ l ∈ d.toList.map encS, l.length = 3 := fun l hl => by obtain ⟨x, _, rfl⟩ := List.mem_map.1 hl; rfl
  have hq : j / 3 < d.size := by omega
  have e := flatten_get hlr (k := j / 3) (row := encS d[j / 3]) (by simp [hq]) (j % 3) (by omega)
  rw [show j / 3 * 3 + j % 3 = j by omega] at e
  rw [Sort.get_flatK _ _ _ _ hj, getElem!_pos d (j / 3) hq]
  simp only [dens, List.getElem?_map, e]
  have h3 : j % 3 = 0 ∨ j % 3 = 1 ∨ j % 3 = 2 := by omega
  rcases h3 with h3 | h3 | h3 <;> rw [h3] <;> rfl
theorem sort_c' (xs : List Span) (v : Value) (w : World) (h : (LO.row v 56 3 (xs.map encS)).holds w) (hN : xs.length ≤ 1000000) (hnil : Calls Try.prog 99 #[.slice none 0 0, .func (.func 100) #[] #[]] w fun e w' => e = .returned (.tuple #[]) ∧ w' = w) :
    Calls Try.prog 99 #[v, .func (.func 100) #[] #[]] w (fun e w' => ∃ ys : List Span, e = .returned (.tuple #[]) ∧ ys.Perm xs ∧ ys.Pairwise (fun a b => ¬ ltS b a) ∧ (LO.row v 56 3 (ys.map encS)).holds w' ∧ Fr (blkOf v) w w') := by
  have h' := h
  obtain ⟨⟨hlen, hv⟩, hL⟩ := h
  rcases hv with ⟨rfl, h0⟩ | ⟨g, o, cap, cur, rfl, hg, hnc, hcm, hcs, htake⟩
  · have hx : xs = [] := List.eq_nil_of_length_eq_zero (by simpa using h0)
    subst hx
    exact hnil.mono fun e w' ⟨he, hw⟩ => ⟨[], he, .nil, .nil, by rw [hw]; exact h', by rw [hw]; exact Fr.refl _ _⟩
  · simp only [List.length_map] at hnc hcs htake hlen ⊢
    have hgs : g < w.heap.size := (Array.getElem?_eq_some_iff.1 hg).1
    have hcell : ∀ j u, (dens (xs.map encS).flatten)[j]? = some u → w.cell? ⟨g, o + j, none⟩ = some u := by
      intro j u hu
      have hj : j < xs.length * 3 := by
        rcases Nat.lt_or_ge j (xs.length * 3) with h1 | h1
        · exact h1
        · rw [List.getElem?_eq_none (by omega)] at hu; cases hu
      rw [cell_of_row w g _ _ _ _ hg]
      rw [← htake, List.getElem?_take_of_lt hj, List.getElem?_drop] at hu
      simpa using hu
    have hH : Sort.HoldsK encVS 3 w g o xs.toArray := by
      intro j hj
      simp only [Sort.size_flatK, List.size_toArray] at hj
      refine ⟨hcell j _ (flatK_get xs.toArray (by simpa using hj)), ?_⟩
      simp [World.frozen?, hg]
    have eg : ∀ args w, (callFunc 100 args).run Try.prog w = .ok (.enter 100 args) w := enters_of Try.func100 (by kernel_rfl) rfl
    have hcon := AnyQ.slices_SortFunc Try.sortSp 3 (fun w => ok_isAgg (P := Try.prog) (t := 56) (d := .struct (Try.prog.fieldsOf 56)) (by kernel_rfl) w) (fun w => by
      obtain ⟨i, hi, hs⟩ : ∃ i, Try.prog.info? 56 = some i ∧ i.size = 3 := by
        obtain ⟨i, d, hi, _, hs, _⟩ := chk_info (tab_ok 56 _ rfl)
        exact ⟨i, hi, hs⟩
      have := ok_sizeOf (P := Try.prog) hi w
      rw [hs] at this
      exact this) encVS (fun _ => rfl) (fun x v hv => by simp [encVS] at hv; rcases hv with rfl | rfl | rfl <;> rfl) cmpS swoS 100 #[] g o cap xs.toArray w eg (cmpS_lays g o _ w) hH hgs (by simp; omega)
    change Calls Try.prog 99 _ _ _ at hcon
    refine hcon.mono fun e w' ⟨he, d', n', os, hp, hs, hw⟩ => ⟨d'.toList, he, ?_, ?_, ?_, ?_⟩
    · have hp3 := hp.2.2
      have e1 : d'.extract 0 xs.toArray.size = d' := by rw [← hp.1]; simp
      have e2 : xs.toArray.extract 0 xs.toArray.size = xs.toArray := by simp
      rw [e1, e2] at hp3
      simpa using hp3
    · rw [List.pairwise_iff_getElem]
      intro i j hi hj hij hlt
      have := hs i j (Nat.zero_le _) hij (by rw [← hp.1]; simpa using hj)
      rw [getElem!_pos d' j (by simpa using hj), getElem!_pos d' i (by simpa using hi), ← Bool.not_eq_true, ltOf_cmpS] at this
      exact this (by simpa using hlt)
    all_goals
      have hd : d'.size = xs.length := by rw [hp.1]; simp
      have hheap : w'.heap[g]? = some (.cells (Sort.putCells id o (Sort.flatK encVS 3 d') cur) 56 (0, 0)) := by
        rw [hw]
        simp only [sortWorldK, Sort.grow, Sort.putRowK, Sort.putRow, Sort.mapBlock, Sort.ahead]
        rw [Array.getElem?_append_left (by simpa using hgs), Array.getElem?_modify, if_pos rfl, hg]
        rfl
    · have hrl : ∀ l ∈ d'.toList.map encS, l.length = 3 := fun l hl => by obtain ⟨x, _, rfl⟩ := List.mem_map.1 hl; rfl
      have hdl : (dens (d'.toList.map encS).flatten).length = xs.length * 3 := by simp only [dens, List.length_map]; rw [flatten_len hrl]; simp [hd]
      refine ⟨⟨by rw [hdl]; simp [hd], .inr ⟨g, o, cap, _, by simp [hd], hheap, by simp [hd]; omega, hcm, by simp [Sort.putCells]; exact hcs, ?_⟩⟩, hrl⟩
      apply List.ext_getElem?
      intro j
      by_cases hj : j < xs.length * 3
      · have e := flatK_get d' (j := j) (by omega)
        rw [List.getElem?_take_of_lt (by simp [hd]; omega), List.getElem?_drop, e]
        have hlt : o + j < cur.size := by
          have : xs.length * 3 ≤ cap * 3 := Nat.mul_le_mul_right _ hnc
          omega
        simp [Sort.putCells, hlt, hd, hj]
      · rw [List.getElem?_eq_none (by simp [hd]; omega), List.getElem?_eq_none (by omega)]
    · rw [hw]
      refine ⟨rfl, rfl, rfl, by simp [sortWorldK, Sort.grow, Sort.putRowK], fun k hk hn => ?_, by simp [sortWorldK, Sort.grow, Sort.putRowK]⟩
      have hne : g ≠ k := fun e => hn (by simp [blkOf, e])
      simp only [sortWorldK, Sort.grow, Sort.putRowK, Sort.putRow, Sort.mapBlock, Sort.ahead]
      rw [Array.getElem?_append_left (by simpa using hk), Array.getElem?_modify, if_neg hne]
theorem sort_c (xs : List Span) (v : Value) (w : World) (h : (LO.row v 56 3 (xs.map encS)).holds w) (hN : xs.length ≤ 1000000) :
    Calls Try.prog 99 #[v, .func (.func 100) #[] #[]] w (fun e w' => ∃ ys : List Span, e = .returned (.tuple #[]) ∧ ys.Perm xs ∧ ys.Pairwise (fun a b => ¬ ltS b a) ∧ (LO.row v 56 3 (ys.map encS)).holds w' ∧ Fr (blkOf v) w w') := by
  have hcon := AnyF.slices_SortFunc_none Try.sortSp none 0 (.func (.func 100) #[] #[]) w
  change Calls Try.prog 99 _ _ _ at hcon
  exact sort_c' xs v w h hN hcon
end Go.Proofs.Ytjilbkioieicbaa
