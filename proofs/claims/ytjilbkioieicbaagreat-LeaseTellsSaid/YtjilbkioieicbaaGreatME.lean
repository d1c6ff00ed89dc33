/- Texts that the law uses: P3 S1 S2 L0 L7 D0 W9 P4 P5 P6 P7 P9. -/
import Derived.Test.YtjilbkioieicbaaGreatMD
import Derived.Test.YtjilbkioieicbaaGreatMC
import Derived.Deep.Slices
import Derived.ProofKit
import Derived.OpenShut
import Derived.ChangeSame
import Derived.Carry
import Derived.Test.YtjilbkioieicbaaGreatVcMore
import Derived.Test.YtjilbkioieicbaaGreatVcGuard
/- Lots in order: what cutting, merging and moving keep. -/
namespace Go.Proofs.YtjilbkioieicbaaGreat
open Go.Vc Rt
set_option linter.unusedVariables false
set_option linter.unusedSimpArgs false
/-- One lot lies before the other. -/
def bef (a b : Lot) : Prop := a.s.m < b.s.m ∨ (a.s.m = b.s.m ∧ a.s.t ≤ b.s.f)
/-- A lot is not empty, and within the limits. -/
def lotOk (l : Lot) : Prop := 0 ≤ l.s.m ∧ l.s.m ≤ 1073741824 ∧ 0 ≤ l.s.f ∧ l.s.f < l.s.t ∧ l.s.t ≤ 1048576
structure Ord (L : List Lot) : Prop where
  ok : ∀ l ∈ L, lotOk l
  ord : L.Pairwise bef
def Cov (L : List Lot) (m n : Int) : Prop := ∃ l ∈ L, inLot m n l = true
theorem inLot_iff {m n : Int} {l : Lot} : inLot m n l = true ↔ l.s.m = m ∧ l.s.f ≤ n ∧ n < l.s.t := by unfold inLot; simp
theorem cutsIn_iff {m n : Int} {l : Lot} : cutsIn m n l = true ↔ l.s.m = m ∧ l.s.f < n ∧ n < l.s.t := by unfold cutsIn; simp
theorem Cov.cons {l : Lot} {L : List Lot} {m n : Int} : Cov (l :: L) m n ↔ inLot m n l = true ∨ Cov L m n := by
  unfold Cov
  constructor
  · rintro ⟨x, hx, h⟩
    rcases List.mem_cons.1 hx with rfl | hx
    · exact .inl h
    · exact .inr ⟨x, hx, h⟩
  · rintro (h | ⟨x, hx, h⟩)
    · exact ⟨l, List.mem_cons_self .., h⟩
    · exact ⟨x, List.mem_cons_of_mem _ hx, h⟩
theorem Cov.append {a b : List Lot} {m n : Int} : Cov (a ++ b) m n ↔ Cov a m n ∨ Cov b m n := by
  induction a with
  | nil => simp [Cov]
  | cons x a ih => rw [List.cons_append, Cov.cons, Cov.cons, ih, or_assoc]
theorem split_mem {m n : Int} : ∀ {L : List Lot} {x : Lot}, x ∈ split m n L → x ∈ L ∨ ∃ l ∈ L, cutsIn m n l = true ∧ (x = lotTo l n ∨ x = lotFrom l n)
  | [], x, h => by cases h
  | l :: L, x, h => by
    simp only [split] at h
    split at h
    · rename_i hc
      rcases List.mem_cons.1 h with rfl | h
      · exact .inr ⟨l, List.mem_cons_self .., hc, .inl rfl⟩
      · rcases List.mem_cons.1 h with rfl | h
        · exact .inr ⟨l, List.mem_cons_self .., hc, .inr rfl⟩
        · exact .inl (List.mem_cons_of_mem _ h)
    · rcases List.mem_cons.1 h with rfl | h
      · exact .inl (List.mem_cons_self ..)
      · rcases split_mem h with h | ⟨y, hy, hc⟩
        · exact .inl (List.mem_cons_of_mem _ h)
        · exact .inr ⟨y, List.mem_cons_of_mem _ hy, hc⟩
theorem split_ord {m n : Int} : ∀ {L : List Lot}, Ord L → Ord (split m n L)
  | [], h => h
  | l :: L, h => by
    obtain ⟨h1, h2⟩ := List.pairwise_cons.1 h.ord
    have hl := h.ok l (List.mem_cons_self ..)
    have ih := split_ord (m := m) (n := n) (L := L) ⟨fun x hx => h.ok x (List.mem_cons_of_mem _ hx), h2⟩
    simp only [split]
    split
    · rename_i hc
      rw [cutsIn_iff] at hc
      refine ⟨fun x hx => ?_, List.pairwise_cons.2 ⟨fun x hx => ?_, List.pairwise_cons.2 ⟨fun x hx => ?_, h2⟩⟩⟩
      · rcases List.mem_cons.1 hx with rfl | hx
        · unfold lotOk lotTo at *; simp only; omega
        · rcases List.mem_cons.1 hx with rfl | hx
          · unfold lotOk lotFrom at *; simp only; omega
          · exact h.ok x (List.mem_cons_of_mem _ hx)
      · rcases List.mem_cons.1 hx with rfl | hx
        · exact .inr ⟨rfl, Int.le_refl _⟩
        · have := h1 x hx; unfold bef lotTo at *; simp only at *; omega
      · have := h1 x hx; unfold bef lotFrom at *; simp only at *; omega
    · refine ⟨fun x hx => ?_, List.pairwise_cons.2 ⟨fun x hx => ?_, ih.ord⟩⟩
      · rcases List.mem_cons.1 hx with rfl | hx
        · exact hl
        · exact ih.ok x hx
      · rcases split_mem hx with hx | ⟨y, hy, hc, rfl | rfl⟩
        · exact h1 x hx
        · have := h1 y hy; unfold bef lotTo at *; simp only at *; omega
        · have := h1 y hy; rw [cutsIn_iff] at hc; unfold bef lotFrom at *; simp only at *; omega
theorem split_cov {a b m n : Int} : ∀ {L : List Lot}, Cov (split a b L) m n ↔ Cov L m n
  | [] => Iff.rfl
  | l :: L => by
    simp only [split]
    split
    · rename_i hc
      rw [cutsIn_iff] at hc
      rw [Cov.cons, Cov.cons, Cov.cons, ← or_assoc]
      have : (inLot m n (lotTo l b) = true ∨ inLot m n (lotFrom l b) = true) ↔ inLot m n l = true := by
        rw [inLot_iff, inLot_iff, inLot_iff]; unfold lotTo lotFrom; simp only; omega
      rw [this]
    · rw [Cov.cons, Cov.cons, split_cov]
theorem cutAt_ord {s : Span} {L : List Lot} (h : Ord L) : Ord (cutAt s L) := split_ord (split_ord h)
theorem cutAt_cov {s : Span} {L : List Lot} {m n : Int} : Cov (cutAt s L) m n ↔ Cov L m n := split_cov.trans split_cov
theorem idx_found {L : List Lot} {m n : Int} (h : Cov L m n) : ∃ i : Nat, idxOf (inLot m n) L = i ∧ ∃ l, L[i]? = some l ∧ inLot m n l = true := by
  unfold idxOf
  cases hf : L.findIdx? (inLot m n) with
  | none =>
    rw [List.findIdx?_eq_none_iff] at hf
    obtain ⟨l, hl, h⟩ := h
    rw [hf l hl] at h; cases h
  | some i =>
    rw [List.findIdx?_eq_some_iff_getElem] at hf
    exact ⟨i, rfl, L[i]'hf.1, List.getElem?_eq_getElem hf.1, hf.2.1⟩
theorem idx_cov {L : List Lot} {m n : Int} (h : 0 ≤ idxOf (inLot m n) L) : Cov L m n := by
  unfold idxOf at h
  cases hf : L.findIdx? (inLot m n) with
  | none => rw [hf] at h; simp at h
  | some i =>
    rw [List.findIdx?_eq_some_iff_getElem] at hf
    exact ⟨_, List.getElem_mem hf.1, hf.2.1⟩
theorem ord_get {L : List Lot} (h : Ord L) {i j : Nat} {x y : Lot} (hi : L[i]? = some x) (hj : L[j]? = some y) (hij : i < j) : bef x y := by
  obtain ⟨h1, e1⟩ := List.getElem?_eq_some_iff.1 hi
  obtain ⟨h2, e2⟩ := List.getElem?_eq_some_iff.1 hj
  have := (List.pairwise_iff_getElem.1 h.ord) i j h1 h2 hij
  rw [e1, e2] at this; exact this
theorem cutB_of {L : List Lot} {s : Span} (h : Ord L) (h1 : Cov L s.m s.f) (h2 : Cov L s.m (s.t - 1)) (hs : s.f < s.t) : cutB s L = true := by
  obtain ⟨i, hi, x, hx, hx'⟩ := idx_found (cutAt_cov (s := s).2 h1)
  obtain ⟨k, hk, y, hy, hy'⟩ := idx_found (cutAt_cov (s := s).2 h2)
  unfold cutB cutI cutK
  rw [hi, hk]
  have : i ≤ k := by
    rcases Nat.lt_or_ge k i with hlt | hge
    · have := ord_get (cutAt_ord h) hy hx hlt
      rw [inLot_iff] at hx' hy'
      unfold bef at this; omega
    · exact hge
  simp; omega
theorem cutB_cov {L : List Lot} {s : Span} (h : cutB s L = true) : Cov L s.m s.f ∧ Cov L s.m (s.t - 1) := by
  unfold cutB at h
  simp at h
  exact ⟨cutAt_cov.1 (idx_cov h.1), cutAt_cov.1 (idx_cov (show 0 ≤ cutK s L by omega))⟩
/-! ### The two rounds -/
theorem mvRun_spec {d : Deed} : ∀ {l : List Span} {L : List Lot} {e : Int}, Ord L → Ord (mvRun d l L e).1 ∧ (∀ m n, Cov (mvRun d l L e).1 m n ↔ Cov L m n) ∧ (mvRun d l L e).1.length ≤ L.length + 2 * l.length ∧ ((mvRun d l L e).2.2 = true → ∀ s ∈ l, Cov L s.m s.f ∧ Cov L s.m (s.t - 1))
  | [], L, e, h => ⟨h, fun _ _ => Iff.rfl, by simp [mvRun], fun _ s hs => by cases hs⟩
  | s :: l, L, e, h => by
    have hc := cutAt_ord (s := s) h
    have hl := cut_len s L
    simp only [mvRun]
    split
    · rename_i hb
      obtain ⟨h1, h2, h3, h4⟩ := mvRun_spec (d := d) (l := l) (e := errsK (cutAt s L) d (cutI s L).toNat (cutK s L + 1).toNat e) hc
      refine ⟨h1, fun m n => (h2 m n).trans cutAt_cov, by simp only [List.length_cons]; omega, fun hok x hx => ?_⟩
      rcases List.mem_cons.1 hx with rfl | hx
      · exact cutB_cov hb
      · have := h4 hok x hx
        rw [cutAt_cov, cutAt_cov] at this
        exact this
    · exact ⟨hc, fun m n => cutAt_cov, by simp only [List.length_cons]; omega, fun hok => by cases hok⟩
def keepS (f : Lot → Lot) : Prop := ∀ l, (f l).s = l.s
theorem movedL_s (d : Deed) : keepS (movedL d) := fun l => by unfold movedL; split <;> (try split) <;> (try split) <;> rfl
theorem map_bef {f : Lot → Lot} (hf : keepS f) {a b : Lot} : bef (f a) b ↔ bef a b := by unfold bef; rw [hf a]
theorem map_bef' {f : Lot → Lot} (hf : keepS f) {a b : Lot} : bef a (f b) ↔ bef a b := by unfold bef; rw [hf b]
/-- Lots with the same spans. -/
theorem ord_congr {A B : List Lot} (h : A.map (·.s) = B.map (·.s)) (hA : Ord A) : Ord B := by
  have hl : A.length = B.length := by have := congrArg List.length h; simpa using this
  have hg : ∀ i (h1 : i < A.length) (h2 : i < B.length), A[i].s = B[i].s := fun i h1 h2 => by
    have : (A.map (·.s))[i]'(by simpa using h1) = (B.map (·.s))[i]'(by simpa using h2) := by simp only [h]
    simpa using this
  refine ⟨fun l hl' => ?_, List.pairwise_iff_getElem.2 fun i j hi hj hij => ?_⟩
  · obtain ⟨i, hi, e⟩ := List.getElem_of_mem hl'
    have := hA.ok A[i] (List.getElem_mem (by omega))
    unfold lotOk at *
    rw [hg i (by omega) hi, e] at this
    exact this
  · have := (List.pairwise_iff_getElem.1 hA.ord) i j (by omega) (by omega) hij
    unfold bef at *
    rw [hg i (by omega) hi, hg j (by omega) hj] at this
    exact this
theorem cov_congr {A B : List Lot} (h : A.map (·.s) = B.map (·.s)) {m n : Int} : Cov A m n ↔ Cov B m n := by
  have key : ∀ {A : List Lot}, Cov A m n ↔ ∃ s ∈ A.map (·.s), s.m = m ∧ s.f ≤ n ∧ n < s.t := by
    intro A
    unfold Cov
    constructor
    · rintro ⟨l, hl, h⟩
      exact ⟨l.s, List.mem_map.2 ⟨l, hl, rfl⟩, inLot_iff.1 h⟩
    · rintro ⟨s, hs, h⟩
      obtain ⟨l, hl, rfl⟩ := List.mem_map.1 hs
      exact ⟨l, hl, inLot_iff.2 h⟩
  rw [key, key, h]
theorem updR_s {L : List Lot} {i k : Nat} {f : Lot → Lot} (hf : keepS f) (h : i ≤ k) : (updR L i k f).map (·.s) = L.map (·.s) := by
  unfold updR
  rw [List.map_append, List.map_append, List.map_map]
  have : ((·.s) ∘ f : Lot → Span) = (·.s) := by funext l; exact hf l
  rw [this, ← List.map_append, ← List.map_append]
  congr 1
  have e : L.take i = (L.take k).take i := by rw [List.take_take, Nat.min_eq_left h]
  rw [e, List.take_append_drop, List.take_append_drop]
theorem mv2_spec {d : Deed} : ∀ {l : List Span} {L : List Lot}, Ord L → (∀ s ∈ l, Cov L s.m s.f ∧ Cov L s.m (s.t - 1) ∧ s.f < s.t) → Ord (mv2 d l L) ∧ (∀ m n, Cov (mv2 d l L) m n ↔ Cov L m n) ∧ (mv2 d l L).length ≤ L.length + 2 * l.length
  | [], L, h, _ => ⟨h, fun _ _ => Iff.rfl, by simp [mv2]⟩
  | s :: l, L, h, hc => by
    obtain ⟨c1, c2, c3⟩ := hc s (List.mem_cons_self ..)
    have hb := cutB_of h c1 c2 c3
    have hbI := idx_bound (inLot s.m s.f) (cutAt s L)
    have hbK := idx_bound (inLot s.m (s.t - 1)) (cutAt s L)
    change -1 ≤ cutI s L ∧ cutI s L < _ at hbI
    change -1 ≤ cutK s L ∧ cutK s L < _ at hbK
    have hIK : 0 ≤ cutI s L ∧ cutI s L ≤ cutK s L := by unfold cutB at hb; simpa using hb
    have hle : (cutI s L).toNat ≤ (cutK s L + 1).toNat := by omega
    have hs := updR_s (L := cutAt s L) (i := (cutI s L).toNat) (k := (cutK s L + 1).toNat) (movedL_s d) hle
    have hul := updR_len (L := cutAt s L) (f := movedL d) hle (by omega)
    have hcl := cut_len s L
    have ho := ord_congr hs.symm (cutAt_ord (s := s) h)
    have hcv : ∀ m n, Cov (updR (cutAt s L) (cutI s L).toNat (cutK s L + 1).toNat (movedL d)) m n ↔ Cov L m n := fun m n => (cov_congr hs).trans cutAt_cov
    obtain ⟨k1, k2, k3⟩ := mv2_spec (d := d) (l := l) ho (fun x hx => by rw [hcv, hcv]; exact hc x (List.mem_cons_of_mem _ hx))
    simp only [mv2]
    exact ⟨k1, fun m n => (k2 m n).trans (hcv m n), by simp only [List.length_cons]; omega⟩
/-! ### Merging -/
theorem joinL_split (out : List Lot) (l : Lot) (n : Int) : joinL (joinL out (lotTo l n)) (lotFrom l n) = joinL out l := by
  have al : ∀ r, alike r (lotTo l n) = alike r l := fun r => rfl
  have al2 : ∀ r : Lot, alike r l = true → alike (lotTo r n) (lotFrom l n) = true := fun r h => by
    unfold alike at *; simp at h; simp [lotTo, lotFrom, h]
  rcases List.eq_nil_or_concat out with rfl | ⟨o, r, rfl⟩
  · have e1 : joinL [] (lotTo l n) = [] ++ [lotTo l n] := rfl
    have e2 : joinL [] l = [l] := rfl
    rw [e1, joinL_snoc, if_pos (by unfold alike; simp [lotTo, lotFrom]), e2]
    rfl
  · simp only [List.concat_eq_append]
    rw [joinL_snoc, joinL_snoc, al]
    by_cases h : alike r l = true
    · rw [if_pos h, if_pos h]
      show joinL (o ++ [lotTo r n]) (lotFrom l n) = _
      rw [joinL_snoc, if_pos (al2 r h)]
      rfl
    · rw [if_neg h, if_neg h, joinL_snoc, if_pos (by unfold alike; simp [lotTo, lotFrom])]
      rfl
theorem fold_split {m n : Int} : ∀ {L out : List Lot}, (split m n L).foldl joinL out = L.foldl joinL out
  | [], out => rfl
  | l :: L, out => by
    simp only [split]
    split
    · rw [List.foldl_cons, List.foldl_cons, joinL_split, List.foldl_cons]
    · rw [List.foldl_cons, List.foldl_cons, fold_split]
theorem merge_split {m n : Int} {L : List Lot} : mergeL (split m n L) = mergeL L := fold_split
theorem merge_cut {s : Span} {L : List Lot} : mergeL (cutAt s L) = mergeL L := by unfold cutAt; rw [merge_split, merge_split]
theorem merge_run {d : Deed} : ∀ {l : List Span} {L : List Lot} {e : Int}, mergeL (mvRun d l L e).1 = mergeL L
  | [], L, e => rfl
  | s :: l, L, e => by
    simp only [mvRun]
    split
    · rw [merge_run, merge_cut]
    · exact merge_cut
/-- No neighbors are alike. -/
def Mgd (L : List Lot) : Prop := ∀ i a b, L[i]? = some a → L[i + 1]? = some b → alike a b = false
theorem joinL_mgd {out : List Lot} {l : Lot} (h : Mgd out) : Mgd (joinL out l) := by
  rcases List.eq_nil_or_concat out with rfl | ⟨o, r, rfl⟩
  · intro i a b _ hb
    have e : joinL [] l = [l] := rfl
    rw [e] at hb; simp at hb
  · simp only [List.concat_eq_append] at *
    rw [joinL_snoc]
    split
    · intro i a b ha hb
      rcases Nat.lt_or_ge (i + 1) o.length with hlt | hge
      · rw [List.getElem?_append_left (by omega)] at ha hb
        exact h i a b (by rw [List.getElem?_append_left (by omega)]; exact ha) (by rw [List.getElem?_append_left (by omega)]; exact hb)
      · have hi : i + 1 = o.length := by
          rcases Nat.lt_or_ge (i + 1) (o.length + 1) with h' | h'
          · omega
          · rw [List.getElem?_eq_none (by simp; omega)] at hb; cases hb
        rw [List.getElem?_append_left (by omega)] at ha
        rw [List.getElem?_append_right (by omega), hi, Nat.sub_self] at hb
        simp at hb; subst hb
        exact h i a r (by rw [List.getElem?_append_left (by omega)]; exact ha) (by rw [List.getElem?_append_right (by omega), hi, Nat.sub_self]; rfl)
    · rename_i hc
      intro i a b ha hb
      rcases Nat.lt_or_ge (i + 1) (o ++ [r]).length with hlt | hge
      · rw [List.getElem?_append_left (by omega)] at ha hb
        exact h i a b ha hb
      · have hi : i + 1 = (o ++ [r]).length := by
          rcases Nat.lt_or_ge (i + 1) ((o ++ [r]).length + 1) with h' | h'
          · omega
          · rw [List.getElem?_eq_none (by simp at *; omega)] at hb; cases hb
        rw [List.getElem?_append_left (by omega)] at ha
        rw [List.getElem?_append_right (by omega), hi, Nat.sub_self] at hb
        simp at hb; subst hb
        have : i = o.length := by simp at hi; omega
        subst this
        simp at ha; subst ha
        simpa using hc
theorem fold_mgd : ∀ {L out : List Lot}, Mgd out → Mgd (L.foldl joinL out)
  | [], out, h => h
  | l :: L, out, h => fold_mgd (L := L) (joinL_mgd h)
theorem merge_mgd (L : List Lot) : Mgd (mergeL L) := fold_mgd fun i a b h => by simp at h
theorem fold_id : ∀ {L out : List Lot}, Mgd (out ++ L) → L.foldl joinL out = out ++ L
  | [], out, _ => by simp
  | l :: L, out, h => by
    have : joinL out l = out ++ [l] := by
      obtain ⟨r, hr⟩ := lastL out
      refine joinL_app hr fun h0 => ?_
      exact h (out.length - 1) r l (by rw [List.getElem?_append_left (by omega)]; exact hr h0) (by rw [show out.length - 1 + 1 = out.length by omega, List.getElem?_append_right (Nat.le_refl _), Nat.sub_self]; rfl)
    rw [List.foldl_cons, this, fold_id (by simpa using h)]
    simp
theorem merge_id {L : List Lot} (h : Mgd L) : mergeL L = L := by
  have := fold_id (L := L) (out := []) (by simpa using h)
  simpa [mergeL] using this
theorem merge_len (L : List Lot) : (mergeL L).length ≤ L.length := by have := joinsL_len L []; simpa [mergeL] using this
theorem joinL_ord {out : List Lot} {l : Lot} (h : Ord (out ++ [l])) : Ord (joinL out l) ∧ (∀ x ∈ joinL out l, ∃ y ∈ out ++ [l], ∀ z, bef y z → (∀ u ∈ out ++ [l], bef u z) → bef x z) ∧ (∀ m n, Cov (joinL out l) m n ↔ Cov (out ++ [l]) m n) := by
  rcases List.eq_nil_or_concat out with rfl | ⟨o, r, rfl⟩
  · exact ⟨h, fun x hx => ⟨x, hx, fun z hz _ => hz⟩, fun _ _ => Iff.rfl⟩
  · simp only [List.concat_eq_append] at *
    rw [joinL_snoc]
    split
    · rename_i hc
      unfold alike at hc
      simp at hc
      obtain ⟨p1, p2, p3⟩ := List.pairwise_append.1 h.ord
      obtain ⟨q1, q2, q3⟩ := List.pairwise_append.1 p1
      have hr := h.ok r (by simp)
      have hl := h.ok l (by simp)
      refine ⟨⟨fun x hx => ?_, List.pairwise_append.2 ⟨q1, by simp, fun x hx y hy => ?_⟩⟩, fun x hx => ?_, fun m n => ?_⟩
      · rcases List.mem_append.1 hx with hx | hx
        · exact h.ok x (by simp [hx])
        · simp at hx; subst hx
          unfold lotOk lotTo at *; simp only; omega
      · simp at hy; subst hy
        have := q3 x hx r (by simp)
        unfold bef lotTo at *; simp only; exact this
      · rcases List.mem_append.1 hx with hx | hx
        · exact ⟨x, by simp [hx], fun z hz _ => hz⟩
        · simp at hx; subst hx
          refine ⟨l, by simp, fun z hz _ => ?_⟩
          unfold bef lotTo at *; simp only; omega
      · rw [Cov.append, Cov.append, Cov.append, Cov.cons, Cov.cons, Cov.cons, inLot_iff, inLot_iff, inLot_iff]
        unfold lotOk at hr hl
        simp only [lotTo]
        have hn : ¬ Cov [] m n := fun ⟨x, hx, _⟩ => by cases hx
        constructor
        · rintro (h1 | h1 | h1)
          · exact .inl (.inl h1)
          · by_cases h2 : n < r.s.t
            · exact .inl (.inr (.inl ⟨h1.1, h1.2.1, h2⟩))
            · exact .inr (.inl ⟨by omega, by omega, by omega⟩)
          · exact (hn h1).elim
        · rintro ((h1 | h1 | h1) | h1 | h1)
          · exact .inl h1
          · exact .inr (.inl ⟨h1.1, h1.2.1, by omega⟩)
          · exact (hn h1).elim
          · exact .inr (.inl ⟨by omega, by omega, by omega⟩)
          · exact (hn h1).elim
    · exact ⟨h, fun x hx => ⟨x, hx, fun z hz _ => hz⟩, fun _ _ => Iff.rfl⟩
theorem fold_ord : ∀ {L out : List Lot}, Ord (out ++ L) → Ord (L.foldl joinL out) ∧ ∀ m n, Cov (L.foldl joinL out) m n ↔ Cov (out ++ L) m n
  | [], out, h => by simpa using h
  | l :: L, out, h => by
    have e : out ++ l :: L = (out ++ [l]) ++ L := by simp
    rw [e] at h
    obtain ⟨p1, p2, p3⟩ := List.pairwise_append.1 h.ord
    obtain ⟨j1, j2, j3⟩ := joinL_ord (out := out) (l := l) ⟨fun x hx => h.ok x (List.mem_append.2 (.inl hx)), p1⟩
    have ho : Ord (joinL out l ++ L) := by
      refine ⟨fun x hx => ?_, List.pairwise_append.2 ⟨j1.ord, p2, fun x hx z hz => ?_⟩⟩
      · rcases List.mem_append.1 hx with hx | hx
        · exact j1.ok x hx
        · exact h.ok x (List.mem_append.2 (.inr hx))
      · obtain ⟨y, hy, hh⟩ := j2 x hx
        exact hh z (p3 y hy z hz) (fun u hu => p3 u hu z hz)
    obtain ⟨k1, k2⟩ := fold_ord ho
    refine ⟨k1, fun m n => ?_⟩
    rw [List.foldl_cons, k2, Cov.append, j3, e, Cov.append (a := out ++ [l])]
theorem merge_ord {L : List Lot} (h : Ord L) : Ord (mergeL L) := (fold_ord (out := []) (by simpa using h)).1
/-! ### One deed -/
theorem normal_valid {l : List Span} (h : normal l = true) : ∀ s ∈ l, valid s = true := by
  intro s hs
  obtain ⟨i, hi, e⟩ := List.getElem_of_mem hs
  unfold normal at h
  rw [List.all_eq_true] at h
  have := h i (List.mem_range.2 hi)
  unfold okAt at this
  rw [List.getElem?_eq_getElem hi, e] at this
  simp at this
  exact this.1
theorem right_parts {d : Deed} (h : right d = true) : 0 ≤ d.mark ∧ d.mark ≤ 1073741824 ∧ isKey d.author = true ∧ 0 < d.spans.length ∧ normal d.spans = true := by
  unfold right at h
  split at h
  · cases h
  · rename_i hno
    refine ⟨?_, ?_, ?_, ?_, ?_⟩
    · exact Int.not_lt.1 fun h' => hno (.inl h')
    · exact Int.not_lt.1 fun h' => hno (.inr (.inl h'))
    · cases hk : isKey d.author
      · exact (hno (.inr (.inr (.inl hk)))).elim
      · rfl
    · exact Nat.pos_of_ne_zero fun h' => hno (.inr (.inr (.inr (.inl h'))))
    · cases hk : normal d.spans
      · exact (hno (.inr (.inr (.inr (.inr hk))))).elim
      · rfl
theorem right_spans {d : Deed} (h : right d = true) : ∀ s ∈ d.spans, 0 ≤ s.m ∧ s.m ≤ 1073741824 ∧ 0 ≤ s.f ∧ s.f < s.t ∧ s.t ≤ 1048576 := by
  intro s hs
  have := normal_valid (right_parts h).2.2.2.2 s hs
  unfold valid isMark at this
  simp at this
  omega
theorem right_take {d : Deed} (h : right d = true) (hk : d.kind = 0) : ∃ s, d.spans = [s] ∧ s.m = d.mark ∧ s.f = 0 := by
  unfold right at h
  split at h
  · cases h
  · split at h
    · rename_i s hs
      simp at h
      exact ⟨s, hs, h.1, h.2⟩
    · cases h
theorem ord_sorted {L : List Lot} (h : Ord L) : L.Pairwise (fun a b => a.s.m ≤ b.s.m) := h.ord.imp fun {a b} h => by unfold bef at h; omega
theorem doOk_of {L : List Lot} {d : Deed} (h : Ord L) (hl : L.length ≤ 100000) (hs : d.spans.length ≤ 8) : DoOk L d where
  len := by omega
  spans := by omega
  sorted := fun _ => ord_sorted h
  range := fun hr l hl' => by
    have h1 := h.ok l hl'
    have h2 := right_parts hr
    unfold lotOk at h1
    exact ⟨by omega, by omega⟩
  valid := fun hr s hs' => by have := right_spans hr s hs'; omega
  again := fun hr hk h1 h2 k s hks => by
    obtain ⟨m1, m2, m3, m4⟩ := mvRun_spec (d := d) (l := d.spans) (e := 0) h
    have hc := m4 h1
    have key : ∀ x ∈ d.spans, Cov (mvRun d d.spans L 0).1 x.m x.f ∧ Cov (mvRun d d.spans L 0).1 x.m (x.t - 1) ∧ x.f < x.t := fun x hx => by
      have := hc x hx
      rw [m2, m2]
      exact ⟨this.1, this.2, by have := right_spans hr x hx; omega⟩
    obtain ⟨n1, n2, n3⟩ := mv2_spec (d := d) (l := d.spans.take k) m1 (fun x hx => key x (List.mem_of_mem_take hx))
    have hks' := key s (List.mem_of_getElem? hks)
    exact cutB_of n1 ((n2 _ _).2 hks'.1) ((n2 _ _).2 hks'.2.1) hks'.2.2
  out := fun hr hk => by
    obtain ⟨m1, m2, m3, m4⟩ := mvRun_spec (d := d) (l := d.spans) (e := 0) h
    unfold moveB
    simp only
    split
    · simp only; omega
    · split
      · simp only; omega
      · rename_i h1 h2
        have h1 : (mvRun d d.spans L 0).2.2 = true := by simpa using h1
        have hc := m4 h1
        obtain ⟨n1, n2, n3⟩ := mv2_spec (d := d) (l := d.spans) m1 (fun x hx => by
          have := hc x hx
          rw [m2, m2]
          exact ⟨this.1, this.2, by have := right_spans hr x hx; omega⟩)
        simp only; omega
theorem takeWhile_lt {m : Int} : ∀ {L : List Lot}, L.Pairwise (fun a b => a.s.m ≤ b.s.m) → (∀ l ∈ L.take (before L m), l.s.m < m) ∧ (∀ l ∈ L.drop (before L m), ¬ l.s.m < m)
  | [], _ => by simp [before]
  | x :: L, h => by
    obtain ⟨h1, h2⟩ := List.pairwise_cons.1 h
    obtain ⟨k1, k2⟩ := takeWhile_lt (m := m) h2
    by_cases hx : x.s.m < m
    · have e : before (x :: L) m = before L m + 1 := by unfold before; simp [hx]
      rw [e, List.take_succ_cons, List.drop_succ_cons]
      exact ⟨fun l hl => (List.mem_cons.1 hl).elim (fun e => e ▸ hx) (k1 l), k2⟩
    · have e : before (x :: L) m = 0 := by unfold before; simp [hx]
      rw [e]
      refine ⟨fun l hl => by simp at hl, fun l hl => ?_⟩
      rcases List.mem_cons.1 hl with rfl | hl
      · exact hx
      · have := h1 l hl; omega
theorem there_false {L : List Lot} {m : Int} (hs : L.Pairwise (fun a b => a.s.m ≤ b.s.m)) (h : there L m = false) : ∀ l ∈ L.drop (before L m), m < l.s.m := by
  intro l hl
  have hge := (takeWhile_lt (m := m) hs).2
  cases hd : L.drop (before L m) with
  | nil => rw [hd] at hl; cases hl
  | cons x r =>
    have hx : L[before L m]? = some x := by
      have : (L.drop (before L m))[0]? = some x := by rw [hd]; rfl
      simpa using this
    unfold there at h
    rw [hx] at h
    have hne : x.s.m ≠ m := by simpa using h
    have hxge := hge x (by rw [hd]; simp)
    have hpw : (x :: r).Pairwise (fun a b => a.s.m ≤ b.s.m) := by rw [← hd]; exact hs.sublist (List.drop_sublist _ _)
    rw [hd] at hl
    rcases List.mem_cons.1 hl with rfl | hl
    · omega
    · have := (List.pairwise_cons.1 hpw).1 l hl; omega
theorem takeB_ord {L : List Lot} {d : Deed} (h : Ord L) (hr : right d = true) (hk : d.kind = 0) : Ord (takeB L d).1 := by
  obtain ⟨s, hs, hm, hf⟩ := right_take hr hk
  have hsp := right_spans hr s (by rw [hs]; simp)
  unfold takeB
  split
  · exact h
  · rename_i ht
    have ht : there L d.mark = false := by simpa using ht
    have hlt := (takeWhile_lt (m := d.mark) (ord_sorted h)).1
    have hgt := there_false (ord_sorted h) ht
    rw [hs]
    simp only [List.headD_cons, insL]
    have e := List.take_append_drop (before L d.mark) L
    have hp := h.ord
    rw [← e] at hp
    obtain ⟨p1, p2, p3⟩ := List.pairwise_append.1 hp
    refine ⟨fun l hl => ?_, ?_⟩
    · rcases List.mem_append.1 hl with hl | hl
      · rcases List.mem_append.1 hl with hl | hl
        · exact h.ok l (List.mem_of_mem_take hl)
        · simp at hl; subst hl; unfold lotOk; simp only; omega
      · exact h.ok l (List.mem_of_mem_drop hl)
    · rw [List.append_assoc]
      refine List.pairwise_append.2 ⟨p1, List.pairwise_cons.2 ⟨fun l hl => ?_, p2⟩, fun a ha b hb => ?_⟩
      · have := hgt l hl; unfold bef; simp only; omega
      · rcases List.mem_cons.1 hb with rfl | hb
        · have := hlt a ha; unfold bef; simp only; omega
        · exact p3 a ha b hb
theorem moveB_ord {L : List Lot} {d : Deed} (h : Ord L) (hr : right d = true) : Ord (moveB L d).1 ∧ (moveB L d).1.length ≤ L.length + 4 * d.spans.length := by
  obtain ⟨m1, m2, m3, m4⟩ := mvRun_spec (d := d) (l := d.spans) (e := 0) h
  unfold moveB
  simp only
  split
  · exact ⟨m1, by simp only; omega⟩
  · split
    · exact ⟨m1, by simp only; omega⟩
    · rename_i h1 h2
      have h1 : (mvRun d d.spans L 0).2.2 = true := by simpa using h1
      have hc := m4 h1
      obtain ⟨n1, n2, n3⟩ := mv2_spec (d := d) (l := d.spans) m1 (fun x hx => by
        have := hc x hx
        rw [m2, m2]
        exact ⟨this.1, this.2, by have := right_spans hr x hx; omega⟩)
      exact ⟨n1, by simp only; omega⟩
theorem doB_keeps {L : List Lot} {d : Deed} (h : Ord L) (hm : Mgd L) (hs : d.spans.length ≤ 8) : Ord (doB L d).1 ∧ Mgd (doB L d).1 ∧ (doB L d).1.length ≤ L.length + 32 := by
  unfold doB
  split
  · rename_i hr
    split
    · rename_i hk
      exact ⟨merge_ord (takeB_ord h hr hk), merge_mgd _, by have := merge_len (takeB L d).1; have := takeB_len L d; simp only; omega⟩
    · exact ⟨merge_ord (moveB_ord h hr).1, merge_mgd _, by have := merge_len (moveB L d).1; have := (moveB_ord h hr).2; simp only; omega⟩
  · exact ⟨h, hm, by simp⟩
/-- A deed that is refused changes nothing. -/
theorem doB_refused {L : List Lot} {d : Deed} (hm : Mgd L) (he : (doB L d).2 ≠ 0) : (doB L d).1 = L := by
  unfold doB at *
  split at he
  · split at he
    · rename_i hr hk
      rw [if_pos hr, if_pos hk]
      simp only at he ⊢
      unfold takeB at *
      split at he
      · rename_i ht; rw [if_pos ht]; exact merge_id hm
      · exact (he rfl).elim
    · rename_i hr hk
      rw [if_pos hr, if_neg hk]
      simp only at he ⊢
      unfold moveB at *
      simp only at *
      split at he
      · rename_i h1; rw [if_pos h1]; simp only; rw [merge_run]; exact merge_id hm
      · rename_i h1
        split at he
        · rename_i h2; rw [if_neg h1, if_pos h2]; simp only; rw [merge_run]; exact merge_id hm
        · exact (he rfl).elim
  · rename_i hr; rw [if_neg hr]
theorem lotsK_keeps : ∀ (n : Nat) (l : List Deed), l.length = n → (∀ d ∈ l, d.spans.length ≤ 8) → Ord (lotsK l).1 ∧ Mgd (lotsK l).1 ∧ (lotsK l).1.length ≤ 32 * l.length
  | 0, l, hn, _ => by
    have := List.eq_nil_of_length_eq_zero hn
    subst this
    exact ⟨⟨fun l hl => (by cases hl), .nil⟩, fun i a b h => (by simp [lotsK] at h), by simp [lotsK]⟩
  | n + 1, l, hn, hs => by
    rcases List.eq_nil_or_concat l with rfl | ⟨l', d, rfl⟩
    · simp at hn
    · simp only [List.concat_eq_append] at *
      obtain ⟨h1, h2, h3⟩ := lotsK_keeps n l' (by simpa using hn) (fun x hx => hs x (by simp [hx]))
      have := doB_keeps h1 h2 (hs d (by simp))
      rw [lotsK_snoc]
      exact ⟨this.1, this.2.1, by have := this.2.2; simp; omega⟩
theorem lots_ok {l : List Deed} (hs : ∀ d ∈ l, d.spans.length ≤ 8) (hl : l.length ≤ 1000) : ∀ k d, l[k]? = some d → DoOk (lotsK (l.take k)).1 d := fun k d hd => by
  obtain ⟨h1, h2, h3⟩ := lotsK_keeps _ (l.take k) rfl (fun x hx => hs x (List.mem_of_mem_take hx))
  refine doOk_of h1 ?_ (hs d (List.mem_of_getElem? hd))
  have : (l.take k).length ≤ l.length := by simp; omega
  omega
/-- What was refused left out: the same lots, no error. -/
def okDeeds (l : List Deed) (es : List Int) : List Deed := (l.zip es).filterMap fun p => if p.2 = 0 then some p.1 else none
theorem okDeeds_snoc {l : List Deed} {es : List Int} (h : l.length = es.length) (d : Deed) (e : Int) : okDeeds (l ++ [d]) (es ++ [e]) = okDeeds l es ++ (if e = 0 then [d] else []) := by
  unfold okDeeds
  rw [List.zip_append h, List.filterMap_append]
  by_cases he : e = 0 <;> simp [he]
theorem refused_law : ∀ (n : Nat) (l : List Deed), l.length = n → (∀ d ∈ l, d.spans.length ≤ 8) → (lotsK (okDeeds l (lotsK l).2)).1 = (lotsK l).1 ∧ ∀ e ∈ (lotsK (okDeeds l (lotsK l).2)).2, e = 0
  | 0, l, hn, _ => by
    have := List.eq_nil_of_length_eq_zero hn
    subst this
    exact ⟨rfl, fun e he => by cases he⟩
  | n + 1, l, hn, hs => by
    rcases List.eq_nil_or_concat l with rfl | ⟨l', d, rfl⟩
    · simp at hn
    · simp only [List.concat_eq_append] at *
      have hs' : ∀ x ∈ l', x.spans.length ≤ 8 := fun x hx => hs x (by simp [hx])
      obtain ⟨h1, h2⟩ := refused_law n l' (by simpa using hn) hs'
      obtain ⟨k1, k2, k3⟩ := lotsK_keeps n l' (by simpa using hn) hs'
      rw [lotsK_snoc, okDeeds_snoc (by rw [lotsK_errs])]
      by_cases he : (doB (lotsK l').1 d).2 = 0
      · rw [if_pos he, lotsK_snoc, h1]
        refine ⟨rfl, fun e hm => ?_⟩
        rcases List.mem_append.1 hm with hm | hm
        · exact h2 e hm
        · simp at hm; rw [hm]; exact he
      · rw [if_neg he, List.append_nil]
        exact ⟨by rw [h1, doB_refused k2 he], h2⟩
theorem okDeeds_mem {l : List Deed} {es : List Int} : ∀ d ∈ okDeeds l es, d ∈ l := by
  intro d hd
  unfold okDeeds at hd
  obtain ⟨p, hp, h⟩ := List.mem_filterMap.1 hd
  split at h
  · cases h; exact (List.of_mem_zip hp).1
  · cases h
end Go.Proofs.YtjilbkioieicbaaGreat

/- The examples of rights: what the plain functions compute. -/
namespace Go.Proofs.YtjilbkioieicbaaGreat
open Go.Vc Rt
set_option linter.unusedVariables false
set_option linter.unusedSimpArgs false
def sD : List Deed := [⟨0, 0, 3, 0, 0, 0, [⟨0, 0, 10⟩]⟩, ⟨1, 1, 3, 5, 0, 0, [⟨0, 0, 4⟩]⟩, ⟨2, 1, 5, 6, 0, 0, [⟨0, 3, 5⟩]⟩, ⟨3, 2, 3, 5, 0, 9, [⟨0, 4, 6⟩]⟩, ⟨4, 3, 3, 0, 0, 0, [⟨0, 5, 7⟩]⟩, ⟨5, 1, 5, 6, 0, 0, [⟨0, 4, 6⟩]⟩, ⟨6, 1, 5, 3, 0, 0, [⟨0, 4, 6⟩]⟩, ⟨7, 3, 5, 0, 0, 0, [⟨0, 0, 2⟩]⟩, ⟨8, 1, 5, 3, 0, 0, [⟨0, 1, 3⟩]⟩, ⟨9, 1, 3, 5, 0, 0, [⟨0, 9, 11⟩]⟩]
def sErr : List Int := [0, 0, 27, 0, 28, 28, 0, 0, 29, 4]
def sEnd : List Lot := [⟨⟨0, 0, 2⟩, 5, 5, 0, 7⟩, ⟨⟨0, 2, 4⟩, 5, 5, 0, -1⟩, ⟨⟨0, 4, 10⟩, 3, 3, 0, -1⟩]
def sLent : List Lot := [⟨⟨0, 0, 4⟩, 5, 5, 0, -1⟩, ⟨⟨0, 4, 6⟩, 3, 5, 9, -1⟩, ⟨⟨0, 6, 10⟩, 3, 3, 0, -1⟩]
theorem s_errs : (lotsK sD).2 = sErr := by kernel_rfl
theorem s_end : (lotsK sD).1 = sEnd := by kernel_rfl
theorem s_lent : (lotsK (sD.take 4)).1 = sLent := by kernel_rfl
theorem s_sum : count (norm (openL (fun _ => true) sEnd)) = 8 := by kernel_rfl
theorem s_owned : norm (openL (fun l => decide (l.o = 3)) sLent) = [⟨0, 4, 10⟩] := by kernel_rfl
theorem s_held : norm (openL (fun l => decide (l.h = 5)) sLent) = [⟨0, 0, 6⟩] := by kernel_rfl
theorem s_spans : ∀ d ∈ sD, d.spans.length ≤ 8 := by
  have : sD.all (fun d => decide (d.spans.length ≤ 8)) = true := by kernel_rfl
  intro d hd
  have := List.all_eq_true.1 this d hd
  simpa using this
end Go.Proofs.YtjilbkioieicbaaGreat

/- Walks: the examples of rights. -/
namespace Go.Proofs.YtjilbkioieicbaaGreat
open Go.Vc Rt
set_option linter.unusedVariables false
set_option linter.unusedSimpArgs false
def relAll {α : Type} (T : Ty α) (S : List Nat) (w : World) : List α → List (List CV) → Prop
  | [], [] => True
  | x :: xs, l :: L => (∃ l', dens l' = dens l ∧ T.rel S w x l') ∧ relAll T S w xs L
  | _, _ => False
theorem relAll_len {α : Type} {T : Ty α} {S : List Nat} {w : World} : ∀ {xs : List α} {L : List (List CV)}, relAll T S w xs L → xs.length = L.length
  | [], [], _ => rfl
  | x :: xs, l :: L, h => by simp [relAll_len h.2]
  | [], _ :: _, h => h.elim
  | _ :: _, [], h => h.elim
theorem relAll_get {α : Type} {T : Ty α} {S : List Nat} {w : World} : ∀ {xs : List α} {L : List (List CV)}, relAll T S w xs L → ∀ (i : Nat) x, xs[i]? = some x → ∃ l l', L[i]? = some l ∧ dens l' = dens l ∧ T.rel S w x l'
  | [], [], _, i, x, hx => by simp at hx
  | y :: xs, l :: L, h, 0, x, hx => by
    simp at hx; subst hx
    obtain ⟨l', h1, h2⟩ := h.1
    exact ⟨l, l', rfl, h1, h2⟩
  | y :: xs, l :: L, h, i + 1, x, hx => relAll_get h.2 i x (by simpa using hx)
  | [], _ :: _, h, _, _, _ => h.elim
  | _ :: _, [], h, _, _, _ => h.elim
theorem SlOf.of_rows {α : Type} {T : Ty α} {S : List Nat} {w : World} {v : Value} {E : Nat} {xs : List α} {L : List (List CV)} (h : (LO.row v E T.size L).holds w) (hS : ∀ b ∈ blkOf v, b ∉ S) (hsm : xs.length ≤ 9223372036854775807) (hr : relAll T S w xs L) : SlOf T S w v xs := by
  obtain ⟨a, c, rfl, hlc, hnil⟩ := row_slice h
  have hll := relAll_len hr
  refine ⟨⟨a, L.length, c, rfl, hnil, hlc⟩, ?_, hsm, fun b n c' e hp => ?_, fun i x hx => ?_⟩
  · cases a with
    | none => simp [slen]; have := (hnil rfl).1; omega
    | some a => simp [slen, hll]
  · cases e
    refine ⟨hS _ (by simp [blkOf]), ?_⟩
    obtain ⟨⟨_, ⟨he, _⟩ | ⟨g, o, cap, cur, he, hg, _⟩⟩, _⟩ := h
    · cases he
    · cases he
      exact (Array.getElem?_eq_some_iff.1 hg).1
  · obtain ⟨l, l', h1, h2, h3⟩ := relAll_get hr i x hx
    refine ⟨l', h3, fun a' n c' e j u hu => ?_⟩
    rw [h2] at hu
    exact row_cells h h1 a' n c' e j u hu
theorem nilS {b : Nat} : b ∉ ([] : List Nat) := fun h => by cases h
theorem slS {w : World} {v : Value} {E : Nat} (xs : List Span) (h : (LO.row v E 3 (xs.map encS)).holds w) (hl : xs.length ≤ 1000000) : SlOf spT [] w v xs := SlOf.of_row h (fun _ _ => nilS) (by omega)
theorem slL {w : World} {v : Value} {E : Nat} (xs : List Lot) (h : (LO.row v E 7 (xs.map encL)).holds w) (hl : xs.length ≤ 1000000) : SlOf loT [] w v xs := SlOf.of_row h (fun _ _ => nilS) (by omega)
theorem slI {w : World} {v : Value} {E : Nat} (xs : List Int) (h : (LO.row v E 1 (xs.map encI)).holds w) (hl : xs.length ≤ 1000000) : SlOf intT [] w v xs := SlOf.of_row (enc := fun n => [.i n]) h (fun _ _ => nilS) (by omega)
end Go.Proofs.YtjilbkioieicbaaGreat

/- Arguments in memory, opened. -/
namespace Go.Proofs.YtjilbkioieicbaaGreat
open Go.Vc Rt
set_option linter.unusedVariables false
set_option linter.unusedSimpArgs false
section
variable {H : Type} {enc : TypeId × Value → H} {w : World} {spare : Nat → Bool} {held : Bool}
theorem cells_get {base k : Nat} {a : Addr} {cs : List Value} (h : w.cells? base a k = some cs) : cs.length = k ∧ ∀ (j : Nat) u, cs[j]? = some u → w.cell? (a.add j) = some u := by
  unfold World.cells? at h
  split at h
  · have hl := mapM_some_length h
    simp at hl
    refine ⟨hl, fun j u hu => ?_⟩
    have hj : j < k := by have := (List.getElem?_eq_some_iff.1 hu).1; omega
    have := mapM_some_get h j j (by simp [hj])
    rw [this]; exact hu
  · cases h
theorem inR_of_wf {n : Int} (h : (Lit.int .i64 n).wf = true) : inR n := by
  simp only [Lit.wf, Bool.and_eq_true, decide_eq_true_eq] at h
  exact ⟨h.1, h.2⟩
/-- A slice, its elements opened one by one. -/
theorem slOf_open {α : Type} [Inhabited α] {T : Ty α} {t e : TypeId} (ht : Tryz.prog.underlying t = some (.slice e)) (hc : Tryz.prog.cellsOf e = T.size) (hpos : 0 < T.size) (hT : ∀ cs n x, DataW.trod enc Tryz.prog w 0 spare held n e cs = some x → ∃ (a : α) (l : List CV), T.rel [] w a l ∧ dens l = cs)
    {fuel : Nat} {cs : List Value} {x : DataW H × List MemPlace} (h : DataW.trod enc Tryz.prog w 0 spare held fuel t cs = some x) : ∃ v xs, cs = [v] ∧ SlOf T [] w v xs := by
  rcases Deep.open_slice ht h with ⟨rfl, _⟩ | ⟨a, len, cap, m, n, D, Pl, rfl, hb, hlc, hcm, hm, _, hx⟩
  · exact ⟨_, [], rfl, ⟨⟨none, 0, 0, rfl, fun _ => ⟨rfl, rfl⟩, Nat.le_refl _⟩, rfl, by simp, fun a n c e => (by cases e), fun i x hx => (by simp at hx)⟩⟩
  · have hlm : len ≤ m := by rw [hm]; split <;> omega
    have key : ∀ i : Nat, ∃ (y : α) (l : List CV), i < len → T.rel [] w y l ∧ ∀ j u, (dens l)[j]? = some u → w.cell? ((a.add (i * T.size)).add j) = some u := by
      intro i
      by_cases hi : i < len
      · obtain ⟨cs', h1, h2⟩ := hx i (by omega)
        obtain ⟨y, l, h3, h4⟩ := hT cs' n _ h2
        rw [hc] at h1
        exact ⟨y, l, fun _ => ⟨h3, fun j u hu => (cells_get h1).2 j u (by rw [← h4]; exact hu)⟩⟩
      · exact ⟨default, [], fun h => absurd h hi⟩
    let Y : Nat → α := fun i => Classical.choose (key i)
    have hY : ∀ i, i < len → ∃ l, T.rel [] w (Y i) l ∧ ∀ j u, (dens l)[j]? = some u → w.cell? ((a.add (i * T.size)).add j) = some u := fun i hi => by
      obtain ⟨l, hl⟩ := Classical.choose_spec (key i)
      exact ⟨l, hl hi⟩
    refine ⟨_, (List.range len).map Y, rfl, ⟨⟨some a, len, cap, rfl, fun h => (by cases h), hlc⟩, by simp [slen], by simp; unfold maxLen at hcm; omega, fun b n' c' e hp => ?_, fun i y hy => ?_⟩⟩
    · cases e
      refine ⟨(fun h => (by cases h)), ?_⟩
      simp at hp
      obtain ⟨l, h1, h2⟩ := hY 0 hp
      have hll := T.len h1
      have := h2 0 ((dens l)[0]'(by simp [dens]; omega)) (List.getElem?_eq_getElem _)
      unfold World.cell? at this
      split at this
      · rename_i c _ _ hh
        rw [add_block, add_block] at hh
        exact (Array.getElem?_eq_some_iff.1 hh).1
      · cases this
    · have hi : i < len := by have := (List.getElem?_eq_some_iff.1 hy).1; simpa using this
      simp [hi] at hy
      subst hy
      obtain ⟨l, h1, h2⟩ := hY i hi
      refine ⟨l, h1, fun a' n' c' e j u hu => ?_⟩
      cases e
      have := h2 j u hu
      unfold elemAddr
      rw [Int.toNat_natCast, add_add (a.add (i * T.size)) 0 j, Nat.zero_add]
      exact this
/-- A struct of fields of one cell. -/
theorem struct_open {t : TypeId} {fs : Array Field} (ht : Tryz.prog.underlying t = some (.struct fs)) {types : List TypeId} (hf : fs.toList.map (fun f => (f.type, f.offset)) = types.zipIdx) (hc : ∀ u ∈ types, Tryz.prog.cellsOf u = 1) (hk : Tryz.prog.cellsOf t = types.length)
    {fuel : Nat} {cs : List Value} {x : DataW H × List MemPlace} (h : DataW.trod enc Tryz.prog w 0 spare held fuel t cs = some x) :
    cs.length = types.length ∧ ∀ (i : Nat) u, types[i]? = some u → ∃ c n y, cs[i]? = some c ∧ DataW.trod enc Tryz.prog w 0 spare held n u [c] = some y := by
  obtain ⟨xs, n, _, _, hl, hxl, hget⟩ := DataW.trod_struct ht h
  refine ⟨by rw [hl, hk], fun i u hu => ?_⟩
  have hfl : fs.size = types.length := by have := congrArg List.length hf; simpa using this
  have hi : i < types.length := (List.getElem?_eq_some_iff.1 hu).1
  have hfi : (fs.toList.map (fun f => (f.type, f.offset)))[i]? = some (u, i) := by rw [hf]; simp [hu]
  rw [List.getElem?_map] at hfi
  obtain ⟨f, hf1, hf2⟩ := Option.map_eq_some_iff.1 hfi
  simp only [Prod.mk.injEq] at hf2
  obtain ⟨e1, e2⟩ := hf2
  have := hget i f (by simpa using hf1)
  rw [e1, e2, hc u (List.mem_of_getElem? hu), List.getElem?_eq_getElem (by omega)] at this
  have hcs : i < cs.length := by omega
  rw [List.drop_eq_getElem_cons hcs] at this
  exact ⟨cs[i], n, _, List.getElem?_eq_getElem hcs, this⟩
theorem u4 : Tryz.prog.underlying 4 = some .bool := by kernel_rfl
theorem laid : laidOutB Tryz.prog = true := by kernel_rfl
theorem u3 : Tryz.prog.underlying 3 = some (.int .i64) := by kernel_rfl
theorem u45 : Tryz.prog.underlying 22 = some (.slice 44) := by kernel_rfl
theorem u52 : Tryz.prog.underlying 42 = some (.slice 25) := by kernel_rfl
theorem u54 : Tryz.prog.underlying 44 = some (.struct (Tryz.prog.fieldsOf 44)) := by kernel_rfl
theorem u56 : Tryz.prog.underlying 25 = some (.struct (Tryz.prog.fieldsOf 25)) := by kernel_rfl
theorem f56 : (Tryz.prog.fieldsOf 25).toList.map (fun f => (f.type, f.offset)) = [3, 3, 3].zipIdx := by kernel_rfl
theorem f54 : (Tryz.prog.fieldsOf 44).toList.map (fun f => (f.type, f.offset)) = [3, 3, 3, 3, 3, 3, 42].zipIdx := by kernel_rfl
theorem c3 : Tryz.prog.cellsOf 3 = 1 := by kernel_rfl
theorem c52 : Tryz.prog.cellsOf 42 = 1 := by kernel_rfl
theorem c54 : Tryz.prog.cellsOf 44 = 7 := by kernel_rfl
theorem c56 : Tryz.prog.cellsOf 25 = 3 := by kernel_rfl
theorem span_open {fuel : Nat} {cs : List Value} {x : DataW H × List MemPlace} (h : DataW.trod enc Tryz.prog w 0 spare held fuel 25 cs = some x) : ∃ (s : Span) (l : List CV), spT.rel [] w s l ∧ dens l = cs := by
  obtain ⟨hl, hg⟩ := struct_open u56 f56 (fun u hu => by simp at hu; subst hu; exact c3) c56 h
  match cs, hl with
  | [a, b, c], _ =>
    obtain ⟨_, _, _, e0, t0⟩ := hg 0 3 rfl
    obtain ⟨_, _, _, e1, t1⟩ := hg 1 3 rfl
    obtain ⟨_, _, _, e2, t2⟩ := hg 2 3 rfl
    obtain ⟨m, q0, _⟩ := DataW.trod_int u3 t0
    obtain ⟨f, q1, _⟩ := DataW.trod_int u3 t1
    obtain ⟨t, q2, _⟩ := DataW.trod_int u3 t2
    simp at e0 e1 e2 q0 q1 q2
    subst e0 e1 e2 q0 q1 q2
    exact ⟨⟨m, f, t⟩, _, rfl, rfl⟩
theorem deed_open {fuel : Nat} {cs : List Value} {x : DataW H × List MemPlace} (h : DataW.trod enc Tryz.prog w 0 spare held fuel 44 cs = some x) : ∃ (d : Deed) (l : List CV), deT.rel [] w d l ∧ dens l = cs := by
  obtain ⟨hl, hg⟩ := struct_open u54 f54 (fun u hu => by simp at hu; rcases hu with rfl | rfl; exact c3; exact c52) c54 h
  match cs, hl with
  | [c0, c1, c2, c3, c4, c5, c6], _ =>
    obtain ⟨_, _, _, e0, t0⟩ := hg 0 3 rfl
    obtain ⟨_, _, _, e1, t1⟩ := hg 1 3 rfl
    obtain ⟨_, _, _, e2, t2⟩ := hg 2 3 rfl
    obtain ⟨_, _, _, e3, t3⟩ := hg 3 3 rfl
    obtain ⟨_, _, _, e4, t4⟩ := hg 4 3 rfl
    obtain ⟨_, _, _, e5, t5⟩ := hg 5 3 rfl
    obtain ⟨_, _, _, e6, t6⟩ := hg 6 42 rfl
    obtain ⟨n0, q0, _⟩ := DataW.trod_int u3 t0
    obtain ⟨n1, q1, _⟩ := DataW.trod_int u3 t1
    obtain ⟨n2, q2, _⟩ := DataW.trod_int u3 t2
    obtain ⟨n3, q3, _⟩ := DataW.trod_int u3 t3
    obtain ⟨n4, q4, _⟩ := DataW.trod_int u3 t4
    obtain ⟨n5, q5, _⟩ := DataW.trod_int u3 t5
    obtain ⟨v, xs, q6, hv⟩ := slOf_open (T := spT) u52 c56 (by decide) (fun cs n x h => span_open h) t6
    simp at e0 e1 e2 e3 e4 e5 e6 q0 q1 q2 q3 q4 q5 q6
    subst e0 e1 e2 e3 e4 e5 e6 q0 q1 q2 q3 q4 q5 q6
    exact ⟨⟨n0, n1, n2, n3, n4, n5, xs⟩, _, ⟨_, rfl, hv⟩, rfl⟩
theorem deeds_open {v : Value} {d : DataW H} {ps : List MemPlace} (hs : ∃ a n c, v = .slice a n c) (h : DataW.Trod enc Tryz.prog w 0 spare held 22 v d ps) : ∃ l, SlOf deT [] w v l := by
  obtain ⟨a, n, c, rfl⟩ := hs
  obtain ⟨fuel, hf⟩ := h
  obtain ⟨v, xs, e, hv⟩ := slOf_open (T := deT) u45 c54 (by decide) (fun cs n x h => deed_open h) hf
  simp [Value.cells] at e
  subst e
  exact ⟨xs, hv⟩
end
end Go.Proofs.YtjilbkioieicbaaGreat

/- The law RightsRefused (stokvellaw27): what the call computes. -/
namespace Go.Proofs.YtjilbkioieicbaaGreat
open Go.Vc Rt
set_option linter.unusedVariables false
set_option linter.unusedSimpArgs false
theorem few_spec {l : List Deed} {n : Int} (h : few l n = true) : (l.length : Int) ≤ n ∧ ∀ d ∈ l, d.spans.length ≤ 8 := by
  unfold few at h
  simp at h
  exact h
/-- The slices of the deeds' spans. -/
theorem slices_of {w : World} {v : Value} {l : List Deed} (h : SlOf deT [] w v l) : ∃ U : Nat → Value, ∀ i d, l[i]? = some d → SlOf spT [] w (U i) d.spans ∧ ∀ w', Fr [] w w' → ECells w' v 7 i 0 (encD d (U i)) := by
  have key : ∀ i : Nat, ∃ u, ∀ d, l[i]? = some d → SlOf spT [] w u d.spans ∧ ∀ w', Fr [] w w' → ECells w' v 7 i 0 (encD d u) := by
    intro i
    cases hd : l[i]? with
    | none => exact ⟨.slice none 0 0, fun d h => by cases h⟩
    | some d =>
      obtain ⟨_, ⟨u, rfl, hu⟩, hc⟩ := h.at hd
      exact ⟨u, fun d' h' => by cases h'; exact ⟨hu, hc⟩⟩
  exact ⟨fun i => Classical.choose (key i), fun i d hd => Classical.choose_spec (key i) d hd⟩
/-- The deeds without error among the first ones, as they lie. -/
def okRows (l : List Deed) (es : List Int) (U : Nat → Value) : Nat → List (List CV)
  | 0 => []
  | k + 1 => okRows l es U k ++ (match l[k]?, es[k]? with | some d, some e => if e = 0 then [encD d (U k)] else [] | _, _ => [])
def okList (l : List Deed) (es : List Int) : Nat → List Deed
  | 0 => []
  | k + 1 => okList l es k ++ (match l[k]?, es[k]? with | some d, some e => if e = 0 then [d] else [] | _, _ => [])
theorem okList_eq {l : List Deed} {es : List Int} (hl : l.length = es.length) : ∀ k, k ≤ l.length → okList l es k = okDeeds (l.take k) (es.take k)
  | 0, _ => by simp [okList, okDeeds]
  | k + 1, hk => by
    have hd : l[k]? = some l[k] := List.getElem?_eq_getElem (by omega)
    have he : es[k]? = some es[k] := List.getElem?_eq_getElem (by omega)
    rw [List.take_add_one, List.take_add_one, hd, he]
    simp only [Option.toList_some]
    rw [okDeeds_snoc (by simp; omega), ← okList_eq hl k (by omega)]
    simp only [okList, hd, he]
theorem okRows_nop {l : List Deed} {es : List Int} {U : Nat → Value} : ∀ k, NoP (okRows l es U k)
  | 0 => fun l hl => by cases hl
  | k + 1 => fun r hr c hc => by
    simp only [okRows, List.mem_append] at hr
    rcases hr with hr | hr
    · exact okRows_nop k r hr c hc
    · split at hr
      · split at hr
        · simp at hr; subst hr
          simp [encD] at hc
          rcases hc with rfl | rfl | rfl | rfl | rfl | rfl | rfl <;> rfl
        · cases hr
      · cases hr
theorem okRows_len {l : List Deed} {es : List Int} {U : Nat → Value} : ∀ k, (okRows l es U k).length ≤ k ∧ (okRows l es U k).length = (okList l es k).length
  | 0 => by simp [okRows, okList]
  | k + 1 => by
    have ih := okRows_len (l := l) (es := es) (U := U) k
    simp only [okRows, okList, List.length_append]
    split
    · split <;> simp <;> omega
    · simp; omega
theorem relAll_append {α : Type} {T : Ty α} {S : List Nat} {w : World} : ∀ {xs ys : List α} {L M : List (List CV)}, relAll T S w xs L → relAll T S w ys M → relAll T S w (xs ++ ys) (L ++ M)
  | [], ys, [], M, _, h => h
  | x :: xs, ys, l :: L, M, h1, h2 => ⟨h1.1, relAll_append h1.2 h2⟩
  | [], _, _ :: _, _, h, _ => h.elim
  | _ :: _, _, [], _, h, _ => h.elim
theorem okRows_rel {l : List Deed} {es : List Int} {U : Nat → Value} {w w' : World} (hU : ∀ i d, l[i]? = some d → SlOf spT [] w (U i) d.spans) (hf : Ext w w') : ∀ k, relAll deT [] w' (okList l es k) (okRows l es U k)
  | 0 => trivial
  | k + 1 => by
    simp only [okRows, okList]
    refine relAll_append (okRows_rel hU hf k) ?_
    cases hd : l[k]? with
    | none => trivial
    | some d =>
      cases he : es[k]? with
      | none => trivial
      | some e =>
        simp only
        by_cases h0 : e = 0
        · rw [if_pos h0, if_pos h0]
          exact ⟨⟨encD d (U k), rfl, U k, rfl, (hU k d hd).fr hf⟩, trivial⟩
        · rw [if_neg h0, if_neg h0]; trivial
end Go.Proofs.YtjilbkioieicbaaGreat

/- Slices of things that hold slices, as rows of cells. -/
namespace Go.Proofs.YtjilbkioieicbaaGreat
open Go.Vc Rt
set_option linter.unusedVariables false
set_option linter.unusedSimpArgs false
theorem relAll_of_get {α : Type} {T : Ty α} {S : List Nat} {w : World} : ∀ {xs : List α} {L : List (List CV)}, xs.length = L.length → (∀ (i : Nat) x l, xs[i]? = some x → L[i]? = some l → ∃ l', dens l' = dens l ∧ T.rel S w x l') → relAll T S w xs L
  | [], [], _, _ => trivial
  | x :: xs, l :: L, hl, h => ⟨h 0 x l rfl rfl, relAll_of_get (by simpa using hl) fun i y m hy hm => h (i + 1) y m (by simpa using hy) (by simpa using hm)⟩
  | [], _ :: _, h, _ => by simp at h
  | _ :: _, [], h, _ => by simp at h
theorem relAll_fr {α : Type} {T : Ty α} {S : List Nat} {w w' : World} (hf : Fr S w w') : ∀ {xs : List α} {L : List (List CV)}, relAll T S w xs L → relAll T S w' xs L
  | [], [], _ => trivial
  | x :: xs, l :: L, h => ⟨let ⟨l', h1, h2⟩ := h.1; ⟨l', h1, T.fr hf h2⟩, relAll_fr hf h.2⟩
  | [], _ :: _, h => h.elim
  | _ :: _, [], h => h.elim
theorem src_of_cells {w : World} {v : Value} {size : Nat} {R : List (List CV)} (hs : isSl v) (hlen : slen v = R.length) (hl : ∀ l ∈ R, l.length = size) (hone : ∀ l ∈ R, ∀ c ∈ l, c.den.oneCell' = true) (hc : ∀ (k : Nat) l, R[k]? = some l → ECells w v size k 0 l) : SrcOk w v size R := by
  refine ⟨hl, hone, ?_⟩
  obtain ⟨a, n, c, rfl, hnil, hcap⟩ := hs
  cases a with
  | none =>
    obtain ⟨rfl, rfl⟩ := hnil rfl
    simp only [slen] at hlen
    exact .inr ⟨rfl, List.eq_nil_of_length_eq_zero (by omega)⟩
  | some a =>
    have hn : n = R.length := by simp only [slen] at hlen; omega
    subst hn
    refine .inl ⟨a, c, rfl, fun j x hx => ?_⟩
    have hjl : j < R.length * size := by
      rcases Nat.lt_or_ge j (R.length * size) with h' | h'
      · exact h'
      · rw [List.getElem?_eq_none (by simp only [dens, List.length_map]; rw [flatten_len hl]; exact h')] at hx; cases hx
    have hpos : 0 < size := Nat.pos_of_ne_zero fun h0 => by subst h0; simp at hjl
    have hq : j / size < R.length := Nat.div_lt_of_lt_mul (by rw [Nat.mul_comm]; exact hjl)
    have hr := Nat.mod_lt j hpos
    have hj : j / size * size + j % size = j := by rw [Nat.mul_comm]; exact Nat.div_add_mod j size
    have hrow : R[j / size]? = some R[j / size] := List.getElem?_eq_getElem hq
    have e := flatten_get hl hrow (j % size) hr
    rw [hj] at e
    have e2 : (dens R[j / size])[j % size]? = some x := by
      simp only [dens, List.getElem?_map] at hx ⊢
      rw [← e]; exact hx
    have := hc _ _ hrow a _ c rfl (j % size) x e2
    rw [← this]
    congr 1
    unfold elemAddr
    simp only [Int.toNat_natCast, add_add]
    show a.add j = a.add (j / size * size + 0 + j % size)
    rw [Nat.add_zero, hj]
/-- The rows of a slice. -/
theorem slRows {α : Type} [Inhabited α] {T : Ty α} {w : World} {v : Value} {xs : List α} (h : SlOf T [] w v xs) (hone : ∀ x l, T.rel [] w x l → ∀ c ∈ l, c.den.oneCell' = true ∧ noP c = true) :
    ∃ R : List (List CV), R.length = xs.length ∧ relAll T [] w xs R ∧ (∀ w', Ext w w' → SrcOk w' v T.size R) ∧ NoP R ∧ (∀ l ∈ R, ∀ c ∈ l, c.den.oneCell' = true) := by
  have key : ∀ i : Nat, ∃ l : List CV, ∀ x, xs[i]? = some x → T.rel [] w x l ∧ ∀ w', Fr [] w w' → ECells w' v T.size i 0 l := by
    intro i
    cases hx : xs[i]? with
    | none => exact ⟨[], fun x h => by cases h⟩
    | some x =>
      obtain ⟨l, h1, h2⟩ := h.at hx
      exact ⟨l, fun y hy => by cases hy; exact ⟨h1, h2⟩⟩
  let U : Nat → List CV := fun i => Classical.choose (key i)
  have hU : ∀ i x, xs[i]? = some x → T.rel [] w x (U i) ∧ ∀ w', Fr [] w w' → ECells w' v T.size i 0 (U i) := fun i x hx => Classical.choose_spec (key i) x hx
  have hget : ∀ (i : Nat) l, ((List.range xs.length).map U)[i]? = some l → ∃ x, xs[i]? = some x ∧ l = U i := fun i l hl => by
    have hi : i < xs.length := by have := (List.getElem?_eq_some_iff.1 hl).1; simpa using this
    simp [hi] at hl
    exact ⟨xs[i], List.getElem?_eq_getElem hi, hl.symm⟩
  have hmem : ∀ l ∈ (List.range xs.length).map U, ∃ x, T.rel [] w x l := fun l hl => by
    obtain ⟨i, hi⟩ := List.getElem?_of_mem hl
    obtain ⟨x, hx, rfl⟩ := hget i l hi
    exact ⟨x, (hU i x hx).1⟩
  refine ⟨(List.range xs.length).map U, by simp, relAll_of_get (by simp) fun i x l hx hl => ?_, fun w' hf => src_of_cells h.sl (by rw [h.len]; simp) (fun l hl => ?_) (fun l hl c hc => ?_) (fun k l hl => ?_), fun l hl c hc => ?_, fun l hl c hc => ?_⟩
  · obtain ⟨y, hy, rfl⟩ := hget i l hl
    rw [hx] at hy; cases hy
    exact ⟨_, rfl, (hU i x hx).1⟩
  · obtain ⟨x, hx⟩ := hmem l hl; exact T.len hx
  · obtain ⟨x, hx⟩ := hmem l hl; exact (hone x l hx c hc).1
  · obtain ⟨x, hx, rfl⟩ := hget k l hl
    exact (hU k x hx).2 w' hf
  · obtain ⟨x, hx⟩ := hmem l hl; exact (hone x l hx c hc).2
  · obtain ⟨x, hx⟩ := hmem l hl; exact (hone x l hx c hc).1
theorem encD_one {d : Deed} {v : Value} (h : v.oneCell' = true) : ∀ c ∈ encD d v, c.den.oneCell' = true ∧ noP c = true := by
  intro c hc
  simp [encD] at hc
  rcases hc with rfl | rfl | rfl | rfl | rfl | rfl | rfl <;> first | exact ⟨rfl, rfl⟩ | exact ⟨h, rfl⟩
theorem deed_one {w : World} {d : Deed} {l : List CV} (h : deT.rel [] w d l) : ∀ c ∈ l, c.den.oneCell' = true ∧ noP c = true := by
  obtain ⟨v, rfl, hv⟩ := h
  exact encD_one hv.sl.one
/-- Obligations on cells that are met. -/
theorem obl_one {l : List CV} {K : Prop} (h : ∀ c ∈ l, c.den.oneCell' = true) (k : K) : obl [] (oneObs l) K := by
  induction l with
  | nil => exact k
  | cons c l ih =>
    have h1 := h c (List.mem_cons_self ..)
    have ih := ih fun c hc => h c (List.mem_cons_of_mem _ hc)
    cases c with
    | x v => exact ⟨h1, ih⟩
    | _ => exact ih
theorem obl_rows {R : List (List CV)} {K : Prop} (h : ∀ l ∈ R, ∀ c ∈ l, c.den.oneCell' = true) (k : K) : obl [] (oneObs R.flatten) K :=
  obl_one (fun c hc => by obtain ⟨l, hl, hc⟩ := List.mem_flatten.1 hc; exact h l hl c hc) k
theorem relAll_deed {w : World} {d : Deed} {v : Value} (h : SlOf spT [] w v d.spans) : relAll deT [] w [d] [encD d v] := ⟨⟨_, rfl, v, rfl, h⟩, trivial⟩
theorem NoP.app {L M : List (List CV)} (h : NoP L) (h' : NoP M) : NoP (L ++ M) := fun l hl => (List.mem_append.1 hl).elim (h l) (h' l)
theorem NoP.one {l : List CV} (h : ∀ c ∈ l, c.den.oneCell' = true ∧ noP c = true) : NoP [l] := fun m hm c hc => by rw [List.mem_singleton.1 hm] at hc; exact (h c hc).2
theorem one_app {L M : List (List CV)} (h : ∀ l ∈ L, ∀ c ∈ l, c.den.oneCell' = true) (h' : ∀ l ∈ M, ∀ c ∈ l, c.den.oneCell' = true) : ∀ l ∈ L ++ M, ∀ c ∈ l, c.den.oneCell' = true := fun l hl => (List.mem_append.1 hl).elim (h l) (h' l)
theorem one_one {l : List CV} (h : ∀ c ∈ l, c.den.oneCell' = true ∧ noP c = true) : ∀ m ∈ [l], ∀ c ∈ m, c.den.oneCell' = true := fun m hm c hc => by rw [List.mem_singleton.1 hm] at hc; exact (h c hc).1
end Go.Proofs.YtjilbkioieicbaaGreat

/- Walks: what spans have in common, what is left, the first coins. -/
namespace Go.Proofs.YtjilbkioieicbaaGreat
open Go.Vc Rt
set_option linter.unusedVariables false
set_option linter.unusedSimpArgs false
theorem comAll_snoc {xs ys : List Span} {k : Nat} {x : Span} (hx : xs[k]? = some x) : comAll (xs.take (k + 1)) ys = comAll (xs.take k) ys ++ comRow x ys := by
  rw [List.take_add_one, hx]; simp [comAll]
theorem comRow_snoc {ys : List Span} {k : Nat} {x y : Span} (hy : ys[k]? = some y) : comRow x (ys.take (k + 1)) = comRow x (ys.take k) ++ (if x.m = y.m then [⟨x.m, max x.f y.f, min x.t y.t⟩] else []) := by
  rw [List.take_add_one, hy]; simp [comRow]
theorem common_c (a b : List Span) (S S' : List Nat) (v u : Value) (w : World) (h : SlOf spT S w v a) (h' : SlOf spT S' w u b) (hN : a.length ≤ 1000) (hN' : b.length ≤ 1000) : AnsR Tryz.prog 25 [v, u] [.row 25 3 ((common a b).map encS)] w := by
  replace h := h.avoid (S' := []) (fun b hb => by cases hb)
  replace h' := h'.avoid (S' := []) (fun b hb => by cases hb)
  have hna := norm_len a
  have hnb := norm_len b
  have hcom : common a b = norm (comAll (norm a) (norm b)) := rfl
  rw [hcom]
  refine calls_plainB [.x v, .x u] Tryz.func25 rfl rfl (Nat.le_of_ble_eq_true rfl) rfl fun B hB => ?_
  repeat refine At.seq ?_
  refine At.region tab_ok ?_
  conv => whnf
  repeat refine At.seq ?_
  refine At.region tab_ok ?_
  conv => whnf
  repeat refine At.seq ?_
  refine At.region tab_ok ?_
  conv => whnf
  refine ansR_call b67 (rd1 (nopS (norm a))) (fun w' hw => norm_c a [] v w' (h.fr hw.fr) (by omega)) ?_
  intro v1
  conv => whnf
  refine ⟨rfl, ?_⟩
  conv => whnf
  generalize norm a = xs at *
  generalize hys : norm b = ys at *
  have hsz : ∀ k, k ≤ xs.length → (comAll (xs.take k) ys).length ≤ 1000000 := fun k hk => by
    have h1 := comAll_len ys (xs.take k)
    have h2 : (xs.take k).length * ys.length ≤ 1000 * 1000 := Nat.mul_le_mul (by simp; omega) (by omega)
    omega
  repeat refine At.seq ?_
  refine At.block ?_
  refine At.loopH (fun p : Nat × Value => { N := Tryz.f25.ntmps, sl := [(1, some (.x u)), (5, some (.s (.c (.o 1 p.2)))), (11, some (.s (.c (.o 0 v1)))), (12, some (.i xs.length)), (13, some (.i p.1))], gl := [], hp := [(1, .row p.2 25 3 ((comAll (xs.take p.1) ys).map encS)), (0, .row v1 25 3 (xs.map encS))], S := [], ws := w }) (fun p : Nat × Value => p.1 ≤ xs.length) (fun p : Nat × Value => xs.length - p.1)
    (fun w' hw => ⟨(0, .slice none 0 0), Nat.zero_le _, Le.of rfl rfl ⟨rfl, rfl, rfl, congrArg (Value.int .i64) (by simp), rfl, trivial⟩, hw.nil rfl rfl rfl, ⟨⟨_, _, _, rfl⟩, ⟨_, _, _, rfl⟩, trivial⟩, ⟨(nopS _).okH, (nopS _).okH, trivial⟩⟩) ?_
  rintro ⟨k, vo⟩ hk
  simp only at hk ⊢
  repeat refine At.seq ?_
  refine At.region tab_ok ?_
  conv => whnf
  repeat refine At.seq ?_
  refine At.cond rfl (fun hc => At.skip ?_) (fun hc => At.exit ?_)
  · have hlt : k < xs.length := by have := of_decide_eq_true hc; (try simp only [List.length_map] at this); omega
    obtain ⟨x, hx⟩ : ∃ x, xs[k]? = some x := ⟨_, List.getElem?_eq_getElem hlt⟩
    have hs1 := hsz (k + 1) hlt
    rw [comAll_snoc hx] at hs1
    have hnx := comAll_snoc (ys := ys) hx
    generalize comAll (xs.take k) ys = out at *
    repeat refine At.seq ?_
    refine At.block ?_
    repeat refine At.seq ?_
    refine At.region tab_ok ?_
    conv => whnf
    refine ⟨rfl, ?_⟩
    conv => whnf
    refine ⟨by omega, ?_⟩
    conv => whnf
    refine ⟨by (try simp only [List.length_map]); omega, ?_⟩
    conv => whnf
    refine ⟨encS x, ⟨rfl, rfl, by omega, by rw [Int.toNat_natCast, List.getElem?_map, hx]; rfl⟩, ?_⟩
    conv => whnf
    intro bx
    conv => whnf
    repeat refine At.seq ?_
    refine At.region tab_ok ?_
    conv => whnf
    refine ansR_call b67 (rd1 (nopS (norm b))) (fun w' hw => norm_c b [] u w' (h'.fr hw.fr) (by omega)) ?_
    rw [hys]
    intro v2
    conv => whnf
    refine ⟨rfl, ?_⟩
    conv => whnf
    repeat refine At.seq ?_
    refine At.block ?_
    refine At.loopH (fun p : Nat × Value => { N := Tryz.f25.ntmps, sl := [(1, some (.x u)), (5, some (.s (.c (.o 1 p.2)))), (7, some (.s (.c (.p 2 bx 0)))), (11, some (.s (.c (.o 0 v1)))), (12, some (.i xs.length)), (13, some (.i k)), (18, some (.s (.c (.o 3 v2)))), (19, some (.i ys.length)), (20, some (.i p.1))], gl := [], hp := [(3, .row v2 25 3 (ys.map encS)), (2, .box bx 25 (encS x)), (1, .row p.2 25 3 ((out ++ comRow x (ys.take p.1)).map encS)), (0, .row v1 25 3 (xs.map encS))], S := [], ws := w }) (fun p : Nat × Value => p.1 ≤ ys.length) (fun p : Nat × Value => ys.length - p.1)
      (fun w' hw => ⟨(0, vo), Nat.zero_le _, Le.of rfl rfl ⟨rfl, rfl, rfl, rfl, rfl, rfl, rfl, congrArg (Value.int .i64) (by simp), rfl, trivial⟩, hw.keep [3, 2, 1, 0] (by simp [comRow]; rfl) rfl rfl, ⟨⟨_, _, _, rfl⟩, ⟨_, _, rfl⟩, ⟨_, _, _, rfl⟩, ⟨_, _, _, rfl⟩, trivial⟩, ⟨(nopS _).okH, (nopS _).okH, (nopS _).okH, trivial⟩⟩) ?_
    rintro ⟨j, vi⟩ hj
    simp only at hj ⊢
    repeat refine At.seq ?_
    refine At.region tab_ok ?_
    conv => whnf
    repeat refine At.seq ?_
    refine At.cond rfl (fun hc => At.skip ?_) (fun hc => At.exit ?_)
    · have hlty : j < ys.length := by have := of_decide_eq_true hc; (try simp only [List.length_map] at this); omega
      obtain ⟨y, hy⟩ : ∃ x, ys[j]? = some x := ⟨_, List.getElem?_eq_getElem hlty⟩
      have hny := comRow_snoc (x := x) hy
      have hcl := comRow_len x (ys.take j)
      simp only [List.length_take, List.length_append] at hcl hs1
      generalize comRow x (ys.take j) = row at *
      repeat refine At.seq ?_
      refine At.block ?_
      repeat refine At.seq ?_
      refine At.region tab_ok ?_
      conv => whnf
      refine ⟨rfl, ?_⟩
      conv => whnf
      refine ⟨by omega, ?_⟩
      conv => whnf
      refine ⟨by (try simp only [List.length_map]); omega, ?_⟩
      conv => whnf
      refine ⟨encS y, ⟨rfl, rfl, by omega, by rw [Int.toNat_natCast, List.getElem?_map, hy]; rfl⟩, ?_⟩
      conv => whnf
      intro by'
      conv => whnf
      repeat refine At.seq ?_
      refine At.region tab_ok ?_
      conv => whnf
      repeat refine At.seq ?_
      refine At.cond rfl (fun hq => ?_) (fun hq => ?_)
      · have hm : x.m = y.m := of_decide_eq_true hq
        repeat refine At.seq ?_
        refine At.region tab_ok ?_
        conv => whnf
        intro v3
        conv => whnf
        refine ⟨rfl, ?_⟩
        conv => whnf
        refine ⟨⟨rfl, by simp; omega⟩, ?_⟩
        conv => whnf
        intro v4
        conv => whnf
        repeat refine At.seq ?_
        refine At.region tab_ok ?_
        conv => whnf
        refine ⟨⟨by omega, by omega⟩, ?_⟩
        conv => whnf
        refine At.nextH fun w' hw => ⟨(j + 1, v4), by simp only; omega, by simp only; omega, Le.of rfl rfl ⟨rfl, rfl, rfl, rfl, rfl, rfl, rfl, rfl, rfl, trivial⟩, hw.keep [3, 2, 1, 0] ?_ rfl rfl, ⟨⟨_, _, _, rfl⟩, ⟨_, _, rfl⟩, ⟨_, _, _, rfl⟩, ⟨_, _, _, rfl⟩, trivial⟩, ⟨(nopS _).okH, (nopS _).okH, (nopS _).okH, trivial⟩⟩
        show [(3, LO.row _ _ _ _), (2, LO.box _ _ _), (1, LO.row _ _ _ _), (0, LO.row _ _ _ _)] = [(3, LO.row _ _ _ _), (2, LO.box _ _ _), (1, LO.row _ _ _ _), (0, LO.row _ _ _ _)]
        rw [hny, if_pos hm, ← List.append_assoc, List.map_append (l₁ := out ++ row)]
        rfl
      · have hm : ¬ x.m = y.m := of_decide_eq_false hq
        refine At.skip ?_
        repeat refine At.seq ?_
        refine At.region tab_ok ?_
        conv => whnf
        refine ⟨⟨by omega, by omega⟩, ?_⟩
        conv => whnf
        refine At.nextH fun w' hw => ⟨(j + 1, vi), by simp only; omega, by simp only; omega, Le.of rfl rfl ⟨rfl, rfl, rfl, rfl, rfl, rfl, rfl, rfl, rfl, trivial⟩, hw.keep [3, 2, 1, 0] ?_ rfl rfl, ⟨⟨_, _, _, rfl⟩, ⟨_, _, rfl⟩, ⟨_, _, _, rfl⟩, ⟨_, _, _, rfl⟩, trivial⟩, ⟨(nopS _).okH, (nopS _).okH, (nopS _).okH, trivial⟩⟩
        show [(3, LO.row _ _ _ _), (2, LO.box _ _ _), (1, LO.row _ _ _ _), (0, LO.row _ _ _ _)] = [(3, LO.row _ _ _ _), (2, LO.box _ _ _), (1, LO.row _ _ _ _), (0, LO.row _ _ _ _)]
        rw [hny, if_neg hm, List.append_nil]
    · have hge : j = ys.length := by have := of_decide_eq_false hc; omega
      subst hge
      repeat refine At.seq ?_
      refine At.region tab_ok ?_
      conv => whnf
      refine ⟨⟨by omega, by omega⟩, ?_⟩
      conv => whnf
      refine At.nextH fun w' hw => ⟨(k + 1, vi), by simp only; omega, by simp only; omega, Le.of rfl rfl ⟨rfl, rfl, rfl, rfl, rfl, trivial⟩, hw.keep [1, 0] ?_ rfl rfl, ⟨⟨_, _, _, rfl⟩, ⟨_, _, _, rfl⟩, trivial⟩, ⟨(nopS _).okH, (nopS _).okH, trivial⟩⟩
      show [(1, LO.row _ _ _ _), (0, LO.row _ _ _ _)] = [(1, LO.row _ _ _ _), (0, LO.row _ _ _ _)]
      rw [hnx, List.take_length]
  · have hge : k = xs.length := by have := of_decide_eq_false hc; omega
    subst hge
    have hs1 := hsz xs.length (Nat.le_refl _)
    rw [List.take_length] at hs1 ⊢
    repeat refine At.seq ?_
    refine At.region tab_ok ?_
    conv => whnf
    refine ansR_call b67 (rd1 (nopS _)) (fun w' hw => norm_c _ [] vo w' (slS _ (hw.row (id := 1) rfl) (by omega)) (by omega)) ?_
    intro v5
    conv => whnf
    repeat refine At.seq ?_
    refine At.ret (At.doneB tab_ok hB _ rfl fun w' hw => ansR_row (id := 2) hw rfl rfl rfl)
theorem lessRow_snoc {y : Span} {xs : List Span} {k : Nat} {x : Span} (hx : xs[k]? = some x) : lessRow y (xs.take (k + 1)) = lessRow y (xs.take k) ++ lessOne y x := by
  rw [List.take_add_one, hx]; simp [lessRow]
theorem lessAll_snoc {ys out : List Span} {k : Nat} {y : Span} (hy : ys[k]? = some y) : lessAll (ys.take (k + 1)) out = norm (lessRow y (lessAll (ys.take k) out)) := by
  rw [List.take_add_one, hy]; simp [lessAll]
theorem minus_c (a b : List Span) (S S' : List Nat) (v u : Value) (w : World) (h : SlOf spT S w v a) (h' : SlOf spT S' w u b) (hN : a.length ≤ 100000) (hN' : b.length ≤ 100000) : AnsR Tryz.prog 61 [v, u] [.row 25 3 ((minus a b).map encS)] w := by
  replace h := h.avoid (S' := []) (fun b hb => by cases hb)
  replace h' := h'.avoid (S' := []) (fun b hb => by cases hb)
  have hna := norm_len a
  have hnb := norm_len b
  have hcom : minus a b = lessAll (norm b) (norm a) := rfl
  have hnfa := norm_nf a
  have hvb : ∀ y ∈ norm b, y.f < y.t := fun y hy => valid_lt (norm_valid y hy)
  have hvb' := norm_valid (l := b)
  have hva' := norm_valid (l := a)
  rw [hcom]
  refine calls_plainB [.x v, .x u] Tryz.func61 rfl rfl (Nat.le_of_ble_eq_true rfl) rfl fun B hB => ?_
  repeat refine At.seq ?_
  refine At.region tab_ok ?_
  conv => whnf
  repeat refine At.seq ?_
  refine At.region tab_ok ?_
  conv => whnf
  refine ansR_call b67 (rd1 (nopS (norm a))) (fun w' hw => norm_c a [] v w' (h.fr hw.fr) (by omega)) ?_
  intro v1
  conv => whnf
  repeat refine At.seq ?_
  refine At.region tab_ok ?_
  conv => whnf
  refine ansR_call b67 (rd1 (nopS (norm b))) (fun w' hw => norm_c b [] u w' (h'.fr hw.fr) (by omega)) ?_
  intro v2
  conv => whnf
  refine ⟨rfl, ?_⟩
  conv => whnf
  generalize norm a = xs at *
  generalize norm b = ys at *
  have hsz : ∀ k, (lessAll (ys.take k) xs).length ≤ 200000 ∧ NF (lessAll (ys.take k) xs) := fun k => by
    have h1 := lessAll_len (ys := ys.take k) (out := xs) (fun y hy => hvb y (List.mem_of_mem_take hy)) hnfa
    have h2 : (ys.take k).length ≤ ys.length := by simp; omega
    exact ⟨by omega, (lessAll_spec (fun y hy => hvb' y (List.mem_of_mem_take hy)) hnfa hva').1⟩
  repeat refine At.seq ?_
  refine At.block ?_
  refine At.loopH (fun p : Nat × Value => { N := Tryz.f61.ntmps, sl := [(5, some (.s (.c (.o 0 p.2)))), (14, some (.s (.c (.o 1 v2)))), (15, some (.i ys.length)), (16, some (.i p.1))], gl := [], hp := [(0, .row p.2 25 3 ((lessAll (ys.take p.1) xs).map encS)), (1, .row v2 25 3 (ys.map encS))], S := [], ws := w }) (fun p : Nat × Value => p.1 ≤ ys.length) (fun p : Nat × Value => ys.length - p.1)
    (fun w' hw => ⟨(0, v1), Nat.zero_le _, Le.of rfl rfl ⟨rfl, rfl, congrArg (Value.int .i64) (by simp), rfl, trivial⟩, hw.perm (.swap _ _ _) rfl rfl, ⟨⟨_, _, _, rfl⟩, ⟨_, _, _, rfl⟩, trivial⟩, ⟨(nopS _).okH, (nopS _).okH, trivial⟩⟩) ?_
  rintro ⟨k, vo⟩ hk
  simp only at hk ⊢
  repeat refine At.seq ?_
  refine At.region tab_ok ?_
  conv => whnf
  repeat refine At.seq ?_
  refine At.cond rfl (fun hc => At.skip ?_) (fun hc => At.exit ?_)
  · have hlty : k < ys.length := by have := of_decide_eq_true hc; (try simp only [List.length_map] at this); omega
    obtain ⟨y, hy⟩ : ∃ x, ys[k]? = some x := ⟨_, List.getElem?_eq_getElem hlty⟩
    obtain ⟨hl1, hnf⟩ := hsz k
    have hnx := lessAll_snoc (out := xs) hy
    generalize lessAll (ys.take k) xs = out at *
    have hrl := lessRow_len y out
    repeat refine At.seq ?_
    refine At.block ?_
    repeat refine At.seq ?_
    refine At.region tab_ok ?_
    conv => whnf
    refine ⟨rfl, ?_⟩
    conv => whnf
    refine ⟨by omega, ?_⟩
    conv => whnf
    refine ⟨by (try simp only [List.length_map]); omega, ?_⟩
    conv => whnf
    refine ⟨encS y, ⟨rfl, rfl, by omega, by rw [Int.toNat_natCast, List.getElem?_map, hy]; rfl⟩, ?_⟩
    conv => whnf
    intro bx
    conv => whnf
    repeat refine At.seq ?_
    refine At.region tab_ok ?_
    conv => whnf
    repeat refine At.seq ?_
    refine At.region tab_ok ?_
    conv => whnf
    refine ⟨rfl, ?_⟩
    conv => whnf
    repeat refine At.seq ?_
    refine At.block ?_
    refine At.loopH (fun p : Nat × Value => { N := Tryz.f61.ntmps, sl := [(5, some (.s (.c (.o 0 vo)))), (7, some (.s (.c (.p 2 bx 0)))), (8, some (.s (.c (.o 3 p.2)))), (14, some (.s (.c (.o 1 v2)))), (15, some (.i ys.length)), (16, some (.i k)), (20, some (.s (.c (.o 0 vo)))), (21, some (.i out.length)), (22, some (.i p.1))], gl := [], hp := [(3, .row p.2 25 3 ((lessRow y (out.take p.1)).map encS)), (2, .box bx 25 (encS y)), (0, .row vo 25 3 (out.map encS)), (1, .row v2 25 3 (ys.map encS))], S := [], ws := w }) (fun p : Nat × Value => p.1 ≤ out.length) (fun p : Nat × Value => out.length - p.1)
      (fun w' hw => ⟨(0, .slice none 0 0), Nat.zero_le _, Le.of rfl rfl ⟨rfl, rfl, rfl, rfl, rfl, rfl, rfl, congrArg (Value.int .i64) (by simp), rfl, trivial⟩, hw.nil rfl rfl rfl, ⟨⟨_, _, _, rfl⟩, ⟨_, _, rfl⟩, ⟨_, _, _, rfl⟩, ⟨_, _, _, rfl⟩, ⟨_, _, _, rfl⟩, trivial⟩, ⟨(nopS _).okH, (nopS _).okH, (nopS _).okH, trivial⟩⟩) ?_
    rintro ⟨j, vi⟩ hj
    simp only at hj ⊢
    repeat refine At.seq ?_
    refine At.region tab_ok ?_
    conv => whnf
    repeat refine At.seq ?_
    refine At.cond rfl (fun hc => At.skip ?_) (fun hc => At.exit ?_)
    · have hlt : j < out.length := by have := of_decide_eq_true hc; (try simp only [List.length_map] at this); omega
      obtain ⟨x, hx⟩ : ∃ x, out[j]? = some x := ⟨_, List.getElem?_eq_getElem hlt⟩
      have hny := lessRow_snoc (y := y) hx
      have hcl := lessRow_len y (out.take j)
      simp only [List.length_take] at hcl
      generalize lessRow y (out.take j) = row at *
      repeat refine At.seq ?_
      refine At.block ?_
      repeat refine At.seq ?_
      refine At.region tab_ok ?_
      conv => whnf
      refine ⟨rfl, ?_⟩
      conv => whnf
      refine ⟨by omega, ?_⟩
      conv => whnf
      refine ⟨by (try simp only [List.length_map]); omega, ?_⟩
      conv => whnf
      refine ⟨encS x, ⟨rfl, rfl, by omega, by rw [Int.toNat_natCast, List.getElem?_map, hx]; rfl⟩, ?_⟩
      conv => whnf
      intro by'
      conv => whnf
      repeat refine At.seq ?_
      refine At.region tab_ok ?_
      conv => whnf
      repeat refine At.seq ?_
      refine At.cond rfl (fun hq => ?_) (fun hq => ?_)
      · have hm : ¬ x.m = y.m := by simpa using hq
        repeat refine At.seq ?_
        refine At.region tab_ok ?_
        conv => whnf
        intro v3
        conv => whnf
        refine ⟨rfl, ?_⟩
        conv => whnf
        refine ⟨⟨rfl, by simp; omega⟩, ?_⟩
        conv => whnf
        intro v4
        conv => whnf
        refine At.exit ?_
        repeat refine At.seq ?_
        refine At.region tab_ok ?_
        conv => whnf
        refine ⟨⟨by omega, by omega⟩, ?_⟩
        conv => whnf
        refine At.nextH fun w' hw => ⟨(j + 1, v4), by simp only; omega, by simp only; omega, Le.of rfl rfl ⟨rfl, rfl, rfl, rfl, rfl, rfl, rfl, rfl, rfl, trivial⟩, hw.keep [3, 2, 0, 1] ?_ rfl rfl, ⟨⟨_, _, _, rfl⟩, ⟨_, _, rfl⟩, ⟨_, _, _, rfl⟩, ⟨_, _, _, rfl⟩, ⟨_, _, _, rfl⟩, trivial⟩, ⟨(nopS _).okH, (nopS _).okH, (nopS _).okH, trivial⟩⟩
        show [(3, LO.row _ _ _ _), (2, LO.box _ _ _), (0, LO.row _ _ _ _), (1, LO.row _ _ _ _)] = [(3, LO.row _ _ _ _), (2, LO.box _ _ _), (0, LO.row _ _ _ _), (1, LO.row _ _ _ _)]
        rw [hny, lessOne, if_neg hm, List.map_append (l₁ := row)]
        rfl
      · have hm : x.m = y.m := by simpa using hq
        refine At.skip ?_
        repeat refine At.seq ?_
        refine At.region tab_ok ?_
        conv => whnf
        intro v3
        conv => whnf
        refine ⟨rfl, ?_⟩
        conv => whnf
        refine ⟨⟨rfl, by simp; omega⟩, ?_⟩
        conv => whnf
        intro v4
        conv => whnf
        repeat refine At.seq ?_
        refine At.region tab_ok ?_
        conv => whnf
        refine ⟨⟨by omega, by omega⟩, ?_⟩
        conv => whnf
        refine At.nextH fun w' hw => ⟨(j + 1, v4), by simp only; omega, by simp only; omega, Le.of rfl rfl ⟨rfl, rfl, rfl, rfl, rfl, rfl, rfl, rfl, rfl, trivial⟩, hw.keep [3, 2, 0, 1] ?_ rfl rfl, ⟨⟨_, _, _, rfl⟩, ⟨_, _, rfl⟩, ⟨_, _, _, rfl⟩, ⟨_, _, _, rfl⟩, ⟨_, _, _, rfl⟩, trivial⟩, ⟨(nopS _).okH, (nopS _).okH, (nopS _).okH, trivial⟩⟩
        show [(3, LO.row _ _ _ _), (2, LO.box _ _ _), (0, LO.row _ _ _ _), (1, LO.row _ _ _ _)] = [(3, LO.row _ _ _ _), (2, LO.box _ _ _), (0, LO.row _ _ _ _), (1, LO.row _ _ _ _)]
        rw [hny, lessOne, if_pos hm, List.map_append (l₁ := row)]
        rfl
    · have hge : j = out.length := by have := of_decide_eq_false hc; omega
      subst hge
      rw [List.take_length]
      repeat refine At.seq ?_
      refine At.region tab_ok ?_
      conv => whnf
      refine ansR_call b67 (rd1 (nopS _)) (fun w' hw => norm_c _ [] vi w' (slS _ (hw.row (id := 3) rfl) (by omega)) (by omega)) ?_
      intro v5
      conv => whnf
      repeat refine At.seq ?_
      refine At.region tab_ok ?_
      conv => whnf
      refine ⟨⟨by omega, by omega⟩, ?_⟩
      conv => whnf
      refine At.nextH fun w' hw => ⟨(k + 1, v5), by simp only; omega, by simp only; omega, Le.of rfl rfl ⟨rfl, rfl, rfl, rfl, trivial⟩, hw.ren [4,1] ((by rw [hnx]; rfl)) rfl rfl, ⟨⟨_, _, _, rfl⟩, ⟨_, _, _, rfl⟩, trivial⟩, ⟨(nopS _).okH, (nopS _).okH, trivial⟩⟩
  · have hge : k = ys.length := by have := of_decide_eq_false hc; omega
    subst hge
    rw [List.take_length]
    repeat refine At.seq ?_
    refine At.region tab_ok ?_
    conv => whnf
    repeat refine At.seq ?_
    refine At.ret (At.doneB tab_ok hB _ rfl fun w' hw => ansR_row (id := 0) hw rfl rfl rfl)
theorem takeN_snoc {xs : List Span} {k : Nat} {x : Span} {n : Int} (hx : xs[k]? = some x) : takeN (xs.take (k + 1)) n = max (takeN (xs.take k) n) 0 - takeK (takeN (xs.take k) n) x := by
  rw [List.take_add_one, hx, takeN_append]; rfl
theorem takeF_snoc {xs : List Span} {k : Nat} {x : Span} {n : Int} (hx : xs[k]? = some x) : takeF (xs.take (k + 1)) n = takeF (xs.take k) n ++ [⟨x.m, x.f, x.f + takeK (takeN (xs.take k) n) x⟩] := by
  rw [List.take_add_one, hx, takeF_append]; rfl
theorem takeR_snoc {xs : List Span} {k : Nat} {x : Span} {n : Int} (hx : xs[k]? = some x) : takeR (xs.take (k + 1)) n = takeR (xs.take k) n ++ [⟨x.m, x.f + takeK (takeN (xs.take k) n) x, x.t⟩] := by
  rw [List.take_add_one, hx, takeR_append]; rfl
end Go.Proofs.YtjilbkioieicbaaGreat

/- Lots as a function of the coins. -/
namespace Go.Proofs.YtjilbkioieicbaaGreat
open Go.Vc Rt
set_option linter.unusedVariables false
set_option linter.unusedSimpArgs false
/-- What is known of one coin. -/
structure Sta where
  o : Int
  h : Int
  u : Int
  p : Int
theorem Sta.ext' {a b : Sta} (h1 : a.o = b.o) (h2 : a.h = b.h) (h3 : a.u = b.u) (h4 : a.p = b.p) : a = b := by cases a; cases b; simp_all
def stL (l : Lot) : Sta := ⟨l.o, l.h, l.u, l.p⟩
def sta (L : List Lot) (m n : Int) : Option Sta := (L.find? (inLot m n)).map stL
theorem sta_nil {m n : Int} : sta [] m n = none := rfl
theorem sta_cons {l : Lot} {L : List Lot} {m n : Int} : sta (l :: L) m n = if inLot m n l = true then some (stL l) else sta L m n := by
  unfold sta
  rw [List.find?_cons]
  cases h : inLot m n l <;> simp
theorem sta_append {A B : List Lot} {m n : Int} : sta (A ++ B) m n = (sta A m n).or (sta B m n) := by
  induction A with
  | nil => simp [sta_nil]
  | cons a A ih =>
    rw [List.cons_append, sta_cons, sta_cons, ih]
    split <;> simp
theorem sta_none {L : List Lot} {m n : Int} : sta L m n = none ↔ ¬ Cov L m n := by
  induction L with
  | nil => simp [sta_nil, Cov]
  | cons l L ih =>
    rw [sta_cons, Cov.cons]
    split
    · rename_i h; simp [h]
    · rename_i h; simp [h, ih]
theorem sta_mem {L : List Lot} {m n : Int} {x : Sta} (h : sta L m n = some x) : ∃ l ∈ L, inLot m n l = true ∧ stL l = x := by
  unfold sta at h
  obtain ⟨l, h1, h2⟩ := Option.map_eq_some_iff.1 h
  exact ⟨l, List.mem_of_find?_eq_some h1, List.find?_some h1, h2⟩
theorem sta_cov {L : List Lot} {m n : Int} : Cov L m n ↔ ∃ x, sta L m n = some x := by
  cases h : sta L m n with
  | none => have := sta_none.1 h; simp [this]
  | some x =>
    obtain ⟨l, hl, h1, _⟩ := sta_mem h
    simp; exact ⟨l, hl, h1⟩
theorem ord_tail {l : Lot} {L : List Lot} (h : Ord (l :: L)) : Ord L := ⟨fun x hx => h.ok x (List.mem_cons_of_mem _ hx), (List.pairwise_cons.1 h.ord).2⟩
theorem ord_apart {l : Lot} {L : List Lot} (h : Ord (l :: L)) {m n : Int} (hl : inLot m n l = true) : ∀ x ∈ L, inLot m n x = false := fun x hx => by
  have h1 := (List.pairwise_cons.1 h.ord).1 x hx
  have h2 := h.ok x (List.mem_cons_of_mem _ hx)
  cases hc : inLot m n x
  · rfl
  · rw [inLot_iff] at hl hc
    unfold bef at h1; unfold lotOk at h2
    omega
theorem sta_some : ∀ {L : List Lot}, Ord L → ∀ {l : Lot}, l ∈ L → ∀ {m n : Int}, inLot m n l = true → sta L m n = some (stL l)
  | x :: L, h, l, hl, m, n, hc => by
    rw [sta_cons]
    rcases List.mem_cons.1 hl with rfl | hl
    · rw [if_pos hc]
    · cases hx : inLot m n x
      · simp; exact sta_some (ord_tail h) hl hc
      · have := ord_apart h hx l hl
        rw [this] at hc; cases hc
theorem sta_first {L : List Lot} (h : Ord L) {l : Lot} (hl : l ∈ L) : sta L l.s.m l.s.f = some (stL l) := by
  refine sta_some h hl ?_
  have := h.ok l hl
  rw [inLot_iff]; unfold lotOk at this; omega
theorem sta_split {a b m n : Int} : ∀ {L : List Lot}, sta (split a b L) m n = sta L m n
  | [] => rfl
  | l :: L => by
    simp only [split]
    split
    · rename_i hc
      rw [cutsIn_iff] at hc
      rw [sta_cons, sta_cons, sta_cons]
      have e1 : stL (lotTo l b) = stL l := rfl
      have e2 : stL (lotFrom l b) = stL l := rfl
      have : (inLot m n (lotTo l b) = true ∨ inLot m n (lotFrom l b) = true) ↔ inLot m n l = true := by
        rw [inLot_iff, inLot_iff, inLot_iff]; unfold lotTo lotFrom; simp only; omega
      rw [e1, e2]
      by_cases h1 : inLot m n (lotTo l b) = true
      · rw [if_pos h1, if_pos (this.1 (.inl h1))]
      · rw [if_neg h1]
        by_cases h2 : inLot m n (lotFrom l b) = true
        · rw [if_pos h2, if_pos (this.1 (.inr h2))]
        · rw [if_neg h2, if_neg (fun h => (this.2 h).elim h1 h2)]
    · rw [sta_cons, sta_cons, sta_split]
theorem sta_cut {s : Span} {L : List Lot} {m n : Int} : sta (cutAt s L) m n = sta L m n := sta_split.trans sta_split
theorem joinL_sta {out : List Lot} {l : Lot} (h : ∀ x ∈ out ++ [l], x.s.f < x.s.t) : (∀ m n, sta (joinL out l) m n = sta (out ++ [l]) m n) ∧ ∀ x ∈ joinL out l, x.s.f < x.s.t := by
  rcases List.eq_nil_or_concat out with rfl | ⟨o, r, rfl⟩
  · exact ⟨fun _ _ => rfl, h⟩
  · simp only [List.concat_eq_append] at *
    rw [joinL_snoc]
    split
    · rename_i hc
      unfold alike at hc
      simp at hc
      have hr := h r (by simp)
      have hl := h l (by simp)
      refine ⟨fun m n => ?_, fun x hx => ?_⟩
      · rw [sta_append, List.append_assoc, sta_append]
        congr 1
        rw [List.singleton_append, sta_cons, sta_cons, sta_cons, sta_nil]
        have e1 : stL (lotTo r l.s.t) = stL r := rfl
        have e2 : stL l = stL r := Sta.ext' hc.1.symm hc.2.1.symm hc.2.2.1.symm hc.2.2.2.1.symm
        have : (inLot m n r = true ∨ inLot m n l = true) ↔ inLot m n (lotTo r l.s.t) = true := by
          rw [inLot_iff, inLot_iff, inLot_iff]; unfold lotTo; simp only; omega
        rw [e1, e2]
        by_cases h1 : inLot m n r = true
        · rw [if_pos h1, if_pos (this.1 (.inl h1))]
        · rw [if_neg h1]
          by_cases h2 : inLot m n l = true
          · rw [if_pos h2, if_pos (this.1 (.inr h2))]
          · rw [if_neg h2, if_neg (fun h => (this.2 h).elim h1 h2)]
      · rcases List.mem_append.1 hx with hx | hx
        · exact h x (by simp [hx])
        · simp at hx; subst hx; unfold lotTo; simp only; omega
    · exact ⟨fun _ _ => rfl, h⟩
theorem fold_sta : ∀ {L out : List Lot}, (∀ x ∈ out ++ L, x.s.f < x.s.t) → ∀ m n, sta (L.foldl joinL out) m n = sta (out ++ L) m n
  | [], out, _, m, n => by simp
  | l :: L, out, h, m, n => by
    have e : out ++ l :: L = (out ++ [l]) ++ L := by simp
    rw [e] at h
    obtain ⟨j1, j2⟩ := joinL_sta (out := out) (l := l) (fun x hx => h x (List.mem_append.2 (.inl hx)))
    rw [List.foldl_cons, fold_sta (fun x hx => (List.mem_append.1 hx).elim (j2 x) (fun hx => h x (List.mem_append.2 (.inr hx)))), sta_append, j1, ← sta_append, e]
theorem sta_merge {L : List Lot} (h : Ord L) (m n : Int) : sta (mergeL L) m n = sta L m n := by
  have := fold_sta (L := L) (out := []) (fun x hx => by have := h.ok x (by simpa using hx); unfold lotOk at this; omega) m n
  simpa [mergeL] using this
/-! ### Nothing is cut -/
def NoCut (L : List Lot) (m n : Int) : Prop := ∀ l ∈ L, cutsIn m n l = false
theorem split_keep {m n a b : Int} {L : List Lot} (h : NoCut L m n) : NoCut (split a b L) m n := fun x hx => by
  rcases split_mem hx with hx | ⟨l, hl, hc, hx⟩
  · exact h x hx
  · have := h l hl
    cases he : cutsIn m n x
    · rfl
    · rw [cutsIn_iff] at hc he
      rw [← this, eq_comm, cutsIn_iff]
      rcases hx with rfl | rfl
      · unfold lotTo at he; simp only at he; omega
      · unfold lotFrom at he; simp only at he; omega
theorem split_nocut {m n : Int} : ∀ {L : List Lot}, Ord L → NoCut (split m n L) m n
  | [], _ => fun x hx => by cases hx
  | l :: L, h => fun x hx => by
    simp only [split] at hx
    split at hx
    · rename_i hc
      rw [cutsIn_iff] at hc
      cases he : cutsIn m n x
      · rfl
      · rw [cutsIn_iff] at he
        rcases List.mem_cons.1 hx with rfl | hx
        · unfold lotTo at he; simp only at he; omega
        · rcases List.mem_cons.1 hx with rfl | hx
          · unfold lotFrom at he; simp only at he; omega
          · have := (List.pairwise_cons.1 h.ord).1 x hx
            unfold bef at this; omega
    · rename_i hc
      rcases List.mem_cons.1 hx with rfl | hx
      · simpa using hc
      · exact split_nocut (ord_tail h) x hx
theorem cut_nocut {s : Span} {L : List Lot} (h : Ord L) : NoCut (cutAt s L) s.m s.f ∧ NoCut (cutAt s L) s.m s.t := ⟨split_keep (split_nocut h), split_nocut (split_ord h)⟩
/-- A lot lies within a span. -/
def inSp (s : Span) (l : Lot) : Bool := decide (l.s.m = s.m) && (decide (s.f ≤ l.s.f) && decide (l.s.t ≤ s.t))
theorem inSp_iff {s : Span} {l : Lot} : inSp s l = true ↔ l.s.m = s.m ∧ s.f ≤ l.s.f ∧ l.s.t ≤ s.t := by unfold inSp; simp
theorem nocut_in {L : List Lot} {s : Span} (h1 : NoCut L s.m s.f) (h2 : NoCut L s.m s.t) {l : Lot} (hl : l ∈ L) {n : Int} (hc : inLot s.m n l = true) (hn : s.f ≤ n ∧ n < s.t) : inSp s l = true := by
  have a1 := h1 l hl
  have a2 := h2 l hl
  rw [inLot_iff] at hc
  have b1 : ¬ (l.s.m = s.m ∧ l.s.f < s.f ∧ s.f < l.s.t) := fun h => by rw [cutsIn_iff.2 h] at a1; cases a1
  have b2 : ¬ (l.s.m = s.m ∧ l.s.f < s.t ∧ s.t < l.s.t) := fun h => by rw [cutsIn_iff.2 h] at a2; cases a2
  rw [inSp_iff]; omega
/-- The lots of a span stand one after the other. -/
theorem seg {L : List Lot} {s : Span} (h : Ord L) (h1 : NoCut L s.m s.f) (h2 : NoCut L s.m s.t) (hs : s.f < s.t) {i k : Nat} {x y : Lot} (hx : L[i]? = some x) (hy : L[k]? = some y) (hx' : inLot s.m s.f x = true) (hy' : inLot s.m (s.t - 1) y = true) :
    (∀ l ∈ L.take i, inSp s l = false) ∧ (∀ l ∈ (L.take (k + 1)).drop i, inSp s l = true) ∧ ∀ l ∈ L.drop (k + 1), inSp s l = false := by
  have ix := nocut_in h1 h2 (List.mem_of_getElem? hx) hx' ⟨Int.le_refl _, hs⟩
  have iy := nocut_in h1 h2 (List.mem_of_getElem? hy) hy' ⟨by omega, by omega⟩
  rw [inSp_iff] at ix iy
  rw [inLot_iff] at hx' hy'
  refine ⟨fun l hl => ?_, fun l hl => ?_, fun l hl => ?_⟩
  · obtain ⟨j, hj, e⟩ := List.getElem_of_mem hl
    have hj' := hj
    rw [List.length_take] at hj'
    rw [List.getElem_take] at e
    have hb := ord_get h (List.getElem?_eq_getElem (show j < L.length by omega)) hx (by omega)
    have ok := h.ok l (List.mem_of_mem_take hl)
    rw [e] at hb
    cases hc : inSp s l
    · rfl
    · rw [inSp_iff] at hc
      unfold bef at hb; unfold lotOk at ok; omega
  · obtain ⟨j, hj, e⟩ := List.getElem_of_mem hl
    simp at hj
    rw [List.getElem_drop, List.getElem_take] at e
    have hjl : i + j < L.length := by omega
    have e' : L[i + j]? = some l := by rw [List.getElem?_eq_getElem hjl, e]
    have okx := h.ok x (List.mem_of_getElem? hx)
    have ok := h.ok l (List.mem_of_getElem? e')
    unfold lotOk at ok okx
    have b1 : (l.s.m = x.s.m ∧ x.s.f ≤ l.s.f) ∨ x.s.m < l.s.m := by
      rcases Nat.eq_zero_or_pos j with rfl | hp
      · rw [Nat.add_zero, hx] at e'; cases e'; exact .inl ⟨rfl, Int.le_refl _⟩
      · have := ord_get h hx e' (by omega)
        unfold bef at this; omega
    have b2 : (l.s.m = y.s.m ∧ l.s.t ≤ y.s.t) ∨ l.s.m < y.s.m := by
      rcases Nat.eq_or_lt_of_le (show i + j ≤ k by omega) with hh | hh
      · rw [hh, hy] at e'; cases e'; exact .inl ⟨rfl, Int.le_refl _⟩
      · have := ord_get h e' hy hh
        have oky := h.ok y (List.mem_of_getElem? hy)
        unfold bef at this; unfold lotOk at oky; omega
    rw [inSp_iff]; omega
  · obtain ⟨j, hj, e⟩ := List.getElem_of_mem hl
    simp at hj
    rw [List.getElem_drop] at e
    have hb := ord_get h hy (List.getElem?_eq_getElem (show k + 1 + j < L.length by omega)) (by omega)
    have ok := h.ok l (List.mem_of_mem_drop hl)
    rw [e] at hb
    cases hc : inSp s l
    · rfl
    · rw [inSp_iff] at hc
      unfold bef at hb; unfold lotOk at ok; omega
theorem parts3 {α : Type} (L : List α) {i k : Nat} (h : i ≤ k) : L = L.take i ++ (L.take k).drop i ++ L.drop k := by
  have e : L.take i = (L.take k).take i := by rw [List.take_take, Nat.min_eq_left h]
  rw [e, List.take_append_drop, List.take_append_drop]
theorem filter_seg {α : Type} {L : List α} {p : α → Bool} {i k : Nat} (h : i ≤ k) (h1 : ∀ l ∈ L.take i, p l = false) (h2 : ∀ l ∈ (L.take k).drop i, p l = true) (h3 : ∀ l ∈ L.drop k, p l = false) : L.filter p = (L.take k).drop i := by
  have e := parts3 L h
  have e1 : (L.take i).filter p = [] := List.filter_eq_nil_iff.2 fun l hl => by simp [h1 l hl]
  have e3 : (L.drop k).filter p = [] := List.filter_eq_nil_iff.2 fun l hl => by simp [h3 l hl]
  have e2 : ((L.take k).drop i).filter p = (L.take k).drop i := List.filter_eq_self.2 h2
  calc L.filter p = (L.take i ++ (L.take k).drop i ++ L.drop k).filter p := by rw [← e]
    _ = _ := by rw [List.filter_append, List.filter_append, e1, e2, e3]; simp
theorem updR_map {L : List Lot} {p : Lot → Bool} {f : Lot → Lot} {i k : Nat} (h : i ≤ k) (h1 : ∀ l ∈ L.take i, p l = false) (h2 : ∀ l ∈ (L.take k).drop i, p l = true) (h3 : ∀ l ∈ L.drop k, p l = false) : updR L i k f = L.map (fun l => if p l then f l else l) := by
  have e := parts3 L h
  have g : ∀ {A : List Lot}, (∀ l ∈ A, p l = false) → A.map (fun l => if p l then f l else l) = A := fun {A} hA => by
    have : A.map (fun l => if p l then f l else l) = A.map id := List.map_congr_left fun l hl => by rw [hA l hl]; rfl
    rw [this, List.map_id]
  have g2 : ((L.take k).drop i).map (fun l => if p l then f l else l) = ((L.take k).drop i).map f := List.map_congr_left fun l hl => by rw [h2 l hl]; rfl
  calc updR L i k f = L.take i ++ ((L.take k).drop i).map f ++ L.drop k := rfl
    _ = (L.take i ++ (L.take k).drop i ++ L.drop k).map (fun l => if p l then f l else l) := by rw [List.map_append, List.map_append, g h1, g2, g h3]
    _ = _ := by rw [← e]
/-- What one span asks: its lots, and what becomes of them. -/
theorem cut_form {L : List Lot} {s : Span} (h : Ord L) (hc : cutB s L = true) (hs : s.f < s.t) (f : Lot → Lot) :
    ((cutAt s L).take (cutK s L + 1).toNat).drop (cutI s L).toNat = (cutAt s L).filter (inSp s) ∧ updR (cutAt s L) (cutI s L).toNat (cutK s L + 1).toNat f = (cutAt s L).map (fun l => if inSp s l then f l else l) := by
  obtain ⟨c1, c2⟩ := cutB_cov hc
  obtain ⟨i, hi, x, hx, hx'⟩ := idx_found (cutAt_cov (s := s).2 c1)
  obtain ⟨k, hk, y, hy, hy'⟩ := idx_found (cutAt_cov (s := s).2 c2)
  have eI : cutI s L = i := hi
  have eK : cutK s L = k := hk
  have hik : i ≤ k := by unfold cutB at hc; rw [eI, eK] at hc; simp at hc; exact hc
  rw [eI, eK, show ((k : Int) + 1).toNat = k + 1 by omega, Int.toNat_natCast]
  obtain ⟨n1, n2⟩ := cut_nocut (s := s) h
  obtain ⟨s1, s2, s3⟩ := seg (cutAt_ord h) n1 n2 hs hx hy hx' hy'
  exact ⟨(filter_seg (by omega) s1 s2 s3).symm, updR_map (by omega) s1 s2 s3⟩
end Go.Proofs.YtjilbkioieicbaaGreat

/- One deed, as a function of the coins. -/
namespace Go.Proofs.YtjilbkioieicbaaGreat
open Go.Vc Rt
open Classical in
/-- The worst of a set of errors. -/
noncomputable def errSet (P : Int → Prop) : Int := if P 29 then 29 else if P 27 then 27 else if P 28 then 28 else 0
set_option linter.unusedVariables false
set_option linter.unusedSimpArgs false
theorem errSet_congr {P Q : Int → Prop} (h : ∀ c, P c ↔ Q c) : errSet P = errSet Q := by
  have : P = Q := funext fun c => propext (h c)
  rw [this]
theorem errSet_zero {P : Int → Prop} (h : errSet P = 0) : ¬ P 29 ∧ ¬ P 27 ∧ ¬ P 28 := by
  unfold errSet at h
  by_cases a : P 29
  · simp [a] at h
  by_cases b : P 27
  · simp [a, b] at h
  by_cases c : P 28
  · simp [a, b, c] at h
  exact ⟨a, b, c⟩
theorem errSet_of_zero {P : Int → Prop} (h1 : ¬ P 29) (h2 : ¬ P 27) (h3 : ¬ P 28) : errSet P = 0 := by unfold errSet; rw [if_neg h1, if_neg h2, if_neg h3]
theorem errSet_worse {a b : Int} {R : Int → Prop} : errSet (fun c => c = worse a b ∨ R c) = errSet (fun c => c = a ∨ c = b ∨ R c) := by
  have e29 : (29 = worse a b) ↔ (29 = a ∨ 29 = b) := by
    unfold worse; split
    · rename_i h; constructor
      · intro _; omega
      · intro _; rfl
    · rename_i h
      constructor
      · intro h'; split at h'
        · omega
        · split at h' <;> omega
      · intro h'; omega
  by_cases h29 : 29 = a ∨ 29 = b
  · have l : (29 = worse a b ∨ R 29) := .inl (e29.2 h29)
    have r : (29 = a ∨ 29 = b ∨ R 29) := by rcases h29 with h | h; exact .inl h; exact .inr (.inl h)
    unfold errSet; rw [if_pos l, if_pos r]
  · by_cases r29 : R 29
    · unfold errSet; rw [if_pos (.inr r29), if_pos (.inr (.inr r29))]
    · have l : ¬ (29 = worse a b ∨ R 29) := fun h => h.elim (fun h => h29 (e29.1 h)) r29
      have r : ¬ (29 = a ∨ 29 = b ∨ R 29) := fun h => h.elim (fun h => h29 (.inl h)) (fun h => h.elim (fun h => h29 (.inr h)) r29)
      unfold errSet
      rw [if_neg l, if_neg r]
      have w : worse a b = if a = 27 ∨ b = 27 then 27 else if a = 28 ∨ b = 28 then 28 else 0 := by unfold worse; rw [if_neg (by omega)]
      have e27 : (27 = worse a b) ↔ (27 = a ∨ 27 = b) := by
        rw [w]; split
        · rename_i h; constructor
          · intro _; omega
          · intro _; rfl
        · rename_i h; constructor
          · intro h'; split at h' <;> omega
          · intro h'; omega
      by_cases h27 : 27 = a ∨ 27 = b
      · have l7 : (27 = worse a b ∨ R 27) := .inl (e27.2 h27)
        have r7 : (27 = a ∨ 27 = b ∨ R 27) := by rcases h27 with h | h; exact .inl h; exact .inr (.inl h)
        rw [if_pos l7, if_pos r7]
      · by_cases r27 : R 27
        · have l7 : (27 = worse a b ∨ R 27) := .inr r27
          have r7 : (27 = a ∨ 27 = b ∨ R 27) := .inr (.inr r27)
          rw [if_pos l7, if_pos r7]
        · have l7 : ¬ (27 = worse a b ∨ R 27) := fun h => h.elim (fun h => h27 (e27.1 h)) r27
          have r7 : ¬ (27 = a ∨ 27 = b ∨ R 27) := fun h => h.elim (fun h => h27 (.inl h)) (fun h => h.elim (fun h => h27 (.inr h)) r27)
          rw [if_neg l7, if_neg r7]
          have w2 : worse a b = if a = 28 ∨ b = 28 then 28 else 0 := by rw [w, if_neg (by omega)]
          have e28 : (28 = worse a b) ↔ (28 = a ∨ 28 = b) := by
            rw [w2]; split
            · rename_i h; constructor
              · intro _; omega
              · intro _; rfl
            · rename_i h; constructor
              · intro h'; omega
              · intro h'; omega
          have : (28 = worse a b ∨ R 28) ↔ (28 = a ∨ 28 = b ∨ R 28) := by rw [e28, or_assoc]
          by_cases h28 : (28 = a ∨ 28 = b ∨ R 28)
          · have l8 := this.2 h28
            rw [if_pos l8, if_pos h28]
          · have l8 : ¬ (28 = worse a b ∨ R 28) := fun h => h28 (this.1 h)
            rw [if_neg l8, if_neg h28]
theorem errSet_fold {d : Deed} {R : Int → Prop} : ∀ {ls : List Lot} {e : Int}, errSet (fun c => c = ls.foldl (fun e l => worse e (may l d)) e ∨ R c) = errSet (fun c => c = e ∨ (∃ l ∈ ls, c = may l d) ∨ R c)
  | [], e => errSet_congr fun c => by simp
  | l :: ls, e => by
    rw [List.foldl_cons, errSet_fold, errSet_worse]
    refine errSet_congr fun c => ?_
    simp only [List.mem_cons, exists_eq_or_imp]
    constructor
    · rintro (h | h | h | h)
      · exact .inl h
      · exact .inr (.inl (.inl h))
      · exact .inr (.inl (.inr h))
      · exact .inr (.inr h)
    · rintro (h | (h | h) | h)
      · exact .inl h
      · exact .inr (.inl h)
      · exact .inr (.inr (.inl h))
      · exact .inr (.inr (.inr h))
def errIs (e : Int) : Prop := e = 0 ∨ e = 29 ∨ e = 27 ∨ e = 28
theorem worse_is {a b : Int} : errIs (worse a b) := by
  unfold worse errIs; split
  · simp
  · split
    · simp
    · split <;> simp
theorem fold_is {d : Deed} : ∀ {ls : List Lot} {e : Int}, errIs e → errIs (ls.foldl (fun e l => worse e (may l d)) e)
  | [], e, h => h
  | l :: ls, e, h => fold_is (ls := ls) worse_is
theorem errSet_one {e : Int} (h : errIs e) : errSet (fun c => c = e) = e := by
  unfold errSet
  rcases h with rfl | rfl | rfl | rfl <;> simp
/-! ### What may be done with a coin, and what becomes of it -/
def mayS (x : Sta) (d : Deed) : Int :=
  if x.p ≠ -1 then 29
  else if x.o ≠ d.author ∧ x.h ≠ d.author then 27
  else if x.h ≠ d.author then 28
  else if x.o ≠ d.author ∧ d.kind ≠ 3 ∧ (d.kind ≠ 1 ∨ d.who ≠ x.o) then 28
  else 0
theorem may_st (l : Lot) (d : Deed) : may l d = mayS (stL l) d := rfl
theorem mayS_is (x : Sta) (d : Deed) : errIs (mayS x d) := by
  unfold mayS errIs; split
  · simp
  · split
    · simp
    · split
      · simp
      · split <;> simp
def movedS (d : Deed) (x : Sta) : Sta :=
  if d.kind = 1 then ⟨d.who, d.who, 0, x.p⟩ else if d.kind = 2 then ⟨x.o, d.who, d.til, x.p⟩ else if d.kind = 3 then ⟨x.o, x.h, x.u, d.mark⟩ else x
theorem moved_st (d : Deed) (l : Lot) : stL (movedL d l) = movedS d (stL l) := by
  unfold movedL movedS; split
  · rfl
  · split
    · rfl
    · split <;> rfl
theorem moved_twice (d : Deed) (x : Sta) : movedS d (movedS d x) = movedS d x := by
  unfold movedS; split
  · rfl
  · split
    · rfl
    · split <;> rfl
theorem inLot_s {m n : Int} {a b : Lot} (h : a.s = b.s) : inLot m n a = inLot m n b := by unfold inLot; rw [h]
/-- The lots of a span are changed: so are its coins. -/
theorem sta_upd {d : Deed} {s : Span} : ∀ {L : List Lot}, NoCut L s.m s.f → NoCut L s.m s.t → ∀ {m n : Int}, sta (L.map (fun l => if inSp s l then movedL d l else l)) m n = if s.m = m ∧ s.f ≤ n ∧ n < s.t then (sta L m n).map (movedS d) else sta L m n
  | [], _, _, m, n => by simp [sta_nil]
  | l :: L, h1, h2, m, n => by
    have ih := sta_upd (d := d) (s := s) (L := L) (fun x hx => h1 x (List.mem_cons_of_mem _ hx)) (fun x hx => h2 x (List.mem_cons_of_mem _ hx)) (m := m) (n := n)
    rw [List.map_cons, sta_cons, sta_cons, ih]
    have hs : inLot m n (if inSp s l then movedL d l else l) = inLot m n l := by
      split
      · exact inLot_s (movedL_s d l)
      · rfl
    rw [hs]
    by_cases hl : inLot m n l = true
    · rw [if_pos hl, if_pos hl]
      by_cases hc : s.m = m ∧ s.f ≤ n ∧ n < s.t
      · have : inSp s l = true := nocut_in h1 h2 (List.mem_cons_self ..) (n := n) (by rw [hc.1]; exact hl) hc.2
        rw [if_pos hc, this]
        simp [moved_st]
      · have : inSp s l = false := by
          cases hq : inSp s l
          · rfl
          · rw [inSp_iff] at hq; rw [inLot_iff] at hl; exact (hc (by omega)).elim
        rw [if_neg hc, this]; rfl
    · rw [if_neg hl, if_neg hl]
/-- No coin lacks one before it. -/
def FullF (F : Int → Int → Option Sta) : Prop := ∀ m n k, 0 ≤ k → k ≤ n → (∃ x, F m n = some x) → ∃ x, F m k = some x
def allIn (F : Int → Int → Option Sta) (s : Span) : Prop := ∀ n, s.f ≤ n → n < s.t → ∃ x, F s.m n = some x
theorem cutB_iff {L : List Lot} {s : Span} (h : Ord L) (hf : FullF (sta L)) (hs : 0 ≤ s.f ∧ s.f < s.t) : cutB s L = true ↔ allIn (sta L) s := by
  constructor
  · intro hc n h1 h2
    have := (cutB_cov hc).2
    rw [sta_cov] at this
    exact hf s.m (s.t - 1) n (by omega) (by omega) this
  · intro ha
    exact cutB_of h (sta_cov.2 (ha _ (Int.le_refl _) hs.2)) (sta_cov.2 (ha _ (by omega) (by omega))) hs.2
theorem filter_coins {L : List Lot} {s : Span} {d : Deed} {c : Int} (h : Ord L) (hs : s.f < s.t) : (∃ l ∈ (cutAt s L).filter (inSp s), c = may l d) ↔ ∃ n x, (s.f ≤ n ∧ n < s.t) ∧ sta L s.m n = some x ∧ mayS x d = c := by
  obtain ⟨n1, n2⟩ := cut_nocut (s := s) h
  have ho := cutAt_ord (s := s) h
  constructor
  · rintro ⟨l, hl, rfl⟩
    obtain ⟨hl, hp⟩ := List.mem_filter.1 hl
    have hk := ho.ok l hl
    rw [inSp_iff] at hp
    unfold lotOk at hk
    refine ⟨l.s.f, stL l, ⟨hp.2.1, by omega⟩, ?_, (may_st l d).symm⟩
    rw [← sta_cut (s := s), ← hp.1]
    exact sta_first ho hl
  · rintro ⟨n, x, hn, hx, rfl⟩
    rw [← sta_cut (s := s)] at hx
    obtain ⟨l, hl, hc, rfl⟩ := sta_mem hx
    exact ⟨l, List.mem_filter.2 ⟨hl, nocut_in n1 n2 hl hc hn⟩, (may_st l d).symm⟩
theorem mvRun_form {d : Deed} : ∀ {l : List Span} {L : List Lot} {e : Int}, Ord L → FullF (sta L) → (∀ s ∈ l, 0 ≤ s.f ∧ s.f < s.t) → errIs e →
    (∀ m n, sta (mvRun d l L e).1 m n = sta L m n) ∧ ((mvRun d l L e).2.2 = true ↔ ∀ s ∈ l, allIn (sta L) s) ∧
    ((mvRun d l L e).2.2 = true → (mvRun d l L e).2.1 = errSet (fun c => c = e ∨ ∃ s ∈ l, ∃ n x, (s.f ≤ n ∧ n < s.t) ∧ sta L s.m n = some x ∧ mayS x d = c))
  | [], L, e, h, hf, hs, he => by
    refine ⟨fun _ _ => rfl, by simp [mvRun], fun _ => ?_⟩
    have : errSet (fun c => c = e ∨ ∃ s ∈ ([] : List Span), ∃ n x, (s.f ≤ n ∧ n < s.t) ∧ sta L s.m n = some x ∧ mayS x d = c) = errSet (fun c => c = e) := errSet_congr fun c => by simp
    rw [this, errSet_one he]; rfl
  | s :: l, L, e, h, hf, hs, he => by
    have hs0 := hs s (List.mem_cons_self ..)
    have hst : ∀ m n, sta (cutAt s L) m n = sta L m n := fun m n => sta_cut
    have hF : sta (cutAt s L) = sta L := by funext m n; exact sta_cut
    simp only [mvRun]
    by_cases hb : cutB s L = true
    · rw [if_pos hb]
      obtain ⟨f1, f2⟩ := cut_form h hb hs0.2 id
      obtain ⟨i1, i2, i3⟩ := mvRun_form (d := d) (l := l) (L := cutAt s L) (e := errsK (cutAt s L) d (cutI s L).toNat (cutK s L + 1).toNat e) (cutAt_ord h) (by rw [hF]; exact hf) (fun x hx => hs x (List.mem_cons_of_mem _ hx)) (fold_is he)
      rw [hF] at i1 i2 i3
      refine ⟨i1, ?_, fun hok => ?_⟩
      · rw [i2, List.forall_mem_cons]
        exact ⟨fun h' => ⟨(cutB_iff h hf hs0).1 hb, h'⟩, fun h' => h'.2⟩
      · rw [i3 hok]
        unfold errsK
        rw [f1, errSet_fold]
        refine errSet_congr fun c => ?_
        rw [filter_coins h hs0.2]
        simp only [List.mem_cons, exists_eq_or_imp]
    · rw [if_neg hb]
      refine ⟨hst, ?_, fun hok => by cases hok⟩
      constructor
      · intro h'; cases h'
      · intro h'
        exact (hb ((cutB_iff h hf hs0).2 (h' s (List.mem_cons_self ..)))).elim
theorem mv2_form {d : Deed} : ∀ {l : List Span} {L : List Lot}, Ord L → (∀ s ∈ l, Cov L s.m s.f ∧ Cov L s.m (s.t - 1) ∧ s.f < s.t) → (∀ m n, Has l m n → sta (mv2 d l L) m n = (sta L m n).map (movedS d)) ∧ ∀ m n, ¬ Has l m n → sta (mv2 d l L) m n = sta L m n
  | [], L, h, _ => ⟨fun m n hh => (Has.nil hh).elim, fun m n _ => rfl⟩
  | s :: l, L, h, hc => by
    obtain ⟨c1, c2, c3⟩ := hc s (List.mem_cons_self ..)
    have hb := cutB_of h c1 c2 c3
    obtain ⟨f1, f2⟩ := cut_form h hb c3 (movedL d)
    obtain ⟨n1, n2⟩ := cut_nocut (s := s) h
    have hsp : ((cutAt s L).map (fun l => if inSp s l then movedL d l else l)).map (·.s) = (cutAt s L).map (·.s) := by
      rw [List.map_map]
      refine List.map_congr_left fun l _ => ?_
      simp only [Function.comp]
      split
      · exact movedL_s d l
      · rfl
    have ho := ord_congr hsp.symm (cutAt_ord (s := s) h)
    have hcv : ∀ m n, Cov ((cutAt s L).map (fun l => if inSp s l then movedL d l else l)) m n ↔ Cov L m n := fun m n => (cov_congr hsp).trans cutAt_cov
    obtain ⟨k1, k2⟩ := mv2_form (d := d) (l := l) ho (fun x hx => by rw [hcv, hcv]; exact hc x (List.mem_cons_of_mem _ hx))
    have hu := fun m n => sta_upd (d := d) (s := s) n1 n2 (m := m) (n := n)
    simp only [mv2]
    rw [f2]
    refine ⟨fun m n hh => ?_, fun m n hh => ?_⟩
    · rw [Has.cons] at hh
      by_cases hl : Has l m n
      · rw [k1 m n hl, hu, sta_cut]
        split
        · cases sta L m n with
          | none => rfl
          | some x => simp [moved_twice]
        · rfl
      · rw [k2 m n hl, hu, sta_cut, if_pos (hh.resolve_right hl)]
    · rw [Has.cons] at hh
      rw [k2 m n (fun h' => hh (.inr h')), hu, sta_cut, if_neg (fun h' => hh (.inl h'))]
end Go.Proofs.YtjilbkioieicbaaGreat

/- Deeds, as functions of the coins; lots are known by their coins. -/
namespace Go.Proofs.YtjilbkioieicbaaGreat
open Go.Vc Rt
set_option linter.unusedVariables false
set_option linter.unusedSimpArgs false
theorem Has.one {s : Span} {m n : Int} : Has [s] m n ↔ s.m = m ∧ s.f ≤ n ∧ n < s.t := by
  rw [Has.cons]; exact ⟨fun h => h.resolve_right Has.nil, .inl⟩
theorem sta_none_of {L : List Lot} {m n : Int} (h : ∀ l ∈ L, l.s.m ≠ m) : sta L m n = none := sta_none.2 fun ⟨l, hl, hc⟩ => h l hl (inLot_iff.1 hc).1
theorem there_iff {L : List Lot} (h : Ord L) {m : Int} : there L m = true ↔ ∃ n x, sta L m n = some x := by
  constructor
  · intro ht
    unfold there at ht
    split at ht
    · rename_i l hl
      have hm : l.s.m = m := of_decide_eq_true ht
      exact ⟨l.s.f, stL l, by rw [← hm]; exact sta_first h (List.mem_of_getElem? hl)⟩
    · cases ht
  · rintro ⟨n, x, hx⟩
    cases ht : there L m
    · have hlt := (takeWhile_lt (m := m) (ord_sorted h)).1
      have hgt := there_false (ord_sorted h) ht
      have : sta L m n = none := sta_none_of fun l hl => by
        rw [← List.take_append_drop (before L m) L] at hl
        rcases List.mem_append.1 hl with hl | hl
        · have := hlt l hl; omega
        · have := hgt l hl; omega
      rw [this] at hx; cases hx
    · rfl
theorem sta_ins {L : List Lot} {i : Nat} {x : Lot} (h : ∀ l ∈ L, l.s.m ≠ x.s.m) (m n : Int) : sta (insL L i x) m n = if inLot m n x = true then some (stL x) else sta L m n := by
  unfold insL
  rw [sta_append, sta_append, sta_cons, sta_nil]
  by_cases hx : inLot m n x = true
  · have e1 : sta (L.take i) m n = none := sta_none_of fun l hl => by rw [← (inLot_iff.1 hx).1]; exact h l (List.mem_of_mem_take hl)
    rw [if_pos hx, if_pos hx, e1]; rfl
  · rw [if_neg hx, if_neg hx, Option.or_none, ← sta_append, List.take_append_drop]
open Classical in
/-- The error of a deed. -/
noncomputable def errF (F : Int → Int → Option Sta) (d : Deed) : Int :=
  if right d = false then 1 else if d.kind = 0 then (if ∃ n x, F d.mark n = some x then 5 else 0)
  else if ∃ m n, Has d.spans m n ∧ F m n = none then 4 else errSet (fun c => ∃ m n x, Has d.spans m n ∧ F m n = some x ∧ mayS x d = c)
open Classical in
/-- What becomes of the coins. -/
noncomputable def stepF (F : Int → Int → Option Sta) (d : Deed) (m n : Int) : Option Sta :=
  if errF F d = 0 then (if Has d.spans m n then (if d.kind = 0 then some ⟨d.author, d.author, 0, -1⟩ else (F m n).map (movedS d)) else F m n) else F m n
theorem all_iff {F : Int → Int → Option Sta} {l : List Span} : (∀ s ∈ l, allIn F s) ↔ ¬ ∃ m n, Has l m n ∧ F m n = none := by
  constructor
  · rintro h ⟨m, n, ⟨s, hs, rfl, h1, h2⟩, h3⟩
    obtain ⟨x, hx⟩ := h s hs n h1 h2
    rw [hx] at h3; cases h3
  · intro h s hs n h1 h2
    cases hx : F s.m n with
    | none => exact (h ⟨s.m, n, ⟨s, hs, rfl, h1, h2⟩, hx⟩).elim
    | some x => exact ⟨x, rfl⟩
theorem errSet_congr3 {P Q : Int → Prop} (h1 : P 29 ↔ Q 29) (h2 : P 27 ↔ Q 27) (h3 : P 28 ↔ Q 28) : errSet P = errSet Q := by
  unfold errSet
  by_cases a : Q 29
  · rw [if_pos a, if_pos (h1.2 a)]
  · rw [if_neg a, if_neg (fun h => a (h1.1 h))]
    by_cases b : Q 27
    · rw [if_pos b, if_pos (h2.2 b)]
    · rw [if_neg b, if_neg (fun h => b (h2.1 h))]
      by_cases c : Q 28
      · rw [if_pos c, if_pos (h3.2 c)]
      · rw [if_neg c, if_neg (fun h => c (h3.1 h))]
theorem err_iff {F : Int → Int → Option Sta} {l : List Span} {d : Deed} : errSet (fun c => c = 0 ∨ ∃ s ∈ l, ∃ n x, (s.f ≤ n ∧ n < s.t) ∧ F s.m n = some x ∧ mayS x d = c) = errSet (fun c => ∃ m n x, Has l m n ∧ F m n = some x ∧ mayS x d = c) := by
  have key : ∀ c, (∃ s ∈ l, ∃ n x, (s.f ≤ n ∧ n < s.t) ∧ F s.m n = some x ∧ mayS x d = c) ↔ ∃ m n x, Has l m n ∧ F m n = some x ∧ mayS x d = c := fun c => by
    constructor
    · rintro ⟨s, hs, n, x, hn, h1, h2⟩
      exact ⟨s.m, n, x, ⟨s, hs, rfl, hn⟩, h1, h2⟩
    · rintro ⟨m, n, x, ⟨s, hs, rfl, hn⟩, h1, h2⟩
      exact ⟨s, hs, n, x, hn, h1, h2⟩
  refine (errSet_congr fun c => by rw [key c]).trans (b := errSet (fun c => c = 0 ∨ ∃ m n x, Has l m n ∧ F m n = some x ∧ mayS x d = c)) ?_
  have e : ∀ c : Int, c ≠ 0 → ((c = 0 ∨ ∃ m n x, Has l m n ∧ F m n = some x ∧ mayS x d = c) ↔ ∃ m n x, Has l m n ∧ F m n = some x ∧ mayS x d = c) := fun c hc => ⟨fun h => h.resolve_left hc, .inr⟩
  exact errSet_congr3 (e 29 (by decide)) (e 27 (by decide)) (e 28 (by decide))
theorem move_F {L : List Lot} {d : Deed} (h : Ord L) (hf : FullF (sta L)) (hr : right d = true) (hk : d.kind ≠ 0) :
    (moveB L d).2 = errF (sta L) d ∧ ∀ m n, sta (moveB L d).1 m n = stepF (sta L) d m n := by
  have hsp := right_spans hr
  obtain ⟨m1, m2, m3⟩ := mvRun_form (d := d) (l := d.spans) (e := 0) h hf (fun s hs => by have := hsp s hs; omega) (.inl rfl)
  obtain ⟨o1, o2, o3, o4⟩ := mvRun_spec (d := d) (l := d.spans) (e := 0) h
  rw [all_iff] at m2
  have hr' : ¬ right d = false := by rw [hr]; simp
  have eF : errF (sta L) d = if (mvRun d d.spans L 0).2.2 = false then 4 else (mvRun d d.spans L 0).2.1 := by
    unfold errF
    rw [if_neg hr', if_neg hk]
    by_cases hc : (mvRun d d.spans L 0).2.2 = true
    · rw [if_neg (m2.1 hc), if_neg (by simp [hc]), m3 hc, err_iff]
    · rw [if_pos (Classical.byContradiction fun h' => hc (m2.2 h')), if_pos (by simpa using hc)]
  unfold moveB stepF
  simp only
  rw [eF]
  by_cases hc : (mvRun d d.spans L 0).2.2 = false
  · rw [if_pos hc, if_pos hc]
    exact ⟨rfl, fun m n => by rw [if_neg (by decide)]; exact m1 m n⟩
  · rw [if_neg hc, if_neg hc]
    by_cases he : (mvRun d d.spans L 0).2.1 = 0
    · rw [if_neg (by simp [he])]
      refine ⟨he.symm, fun m n => ?_⟩
      rw [if_pos he]
      have hc' : (mvRun d d.spans L 0).2.2 = true := by simpa using hc
      have hcov := o4 hc'
      obtain ⟨k1, k2⟩ := mv2_form (d := d) (l := d.spans) o1 (fun x hx => by
        have := hcov x hx
        rw [o2, o2]
        exact ⟨this.1, this.2, by have := hsp x hx; omega⟩)
      by_cases hh : Has d.spans m n
      · rw [if_pos hh, if_neg hk]
        exact (k1 m n hh).trans (by rw [m1])
      · rw [if_neg hh]
        exact (k2 m n hh).trans (m1 m n)
    · rw [if_pos he]
      exact ⟨rfl, fun m n => by rw [if_neg he]; exact m1 m n⟩
theorem take_F {L : List Lot} {d : Deed} (h : Ord L) (hr : right d = true) (hk : d.kind = 0) :
    (takeB L d).2 = errF (sta L) d ∧ ∀ m n, sta (takeB L d).1 m n = stepF (sta L) d m n := by
  obtain ⟨s, hs, hm, hf⟩ := right_take hr hk
  have hr' : ¬ right d = false := by rw [hr]; simp
  have ht := there_iff h (m := d.mark)
  unfold takeB stepF errF
  rw [if_neg hr', if_pos hk]
  by_cases hc : there L d.mark = true
  · rw [if_pos hc, if_pos (ht.1 hc)]
    exact ⟨rfl, fun m n => by rw [if_neg (by decide)]⟩
  · rw [if_neg hc, if_neg (fun h' => hc (ht.2 h'))]
    refine ⟨rfl, fun m n => ?_⟩
    rw [if_pos rfl, hs, if_pos hk]
    simp only [List.headD_cons]
    rw [sta_ins (fun l hl hm' => hc (ht.2 ⟨l.s.f, stL l, by rw [← hm, ← hm']; exact sta_first h hl⟩))]
    by_cases hh : inLot m n ⟨s, d.author, d.author, 0, -1⟩ = true
    · rw [if_pos hh, if_pos (Has.one.2 (inLot_iff.1 hh))]; rfl
    · rw [if_neg hh, if_neg (fun h' => hh (inLot_iff.2 (Has.one.1 h')))]
theorem do_F {L : List Lot} {d : Deed} (h : Ord L) (hf : FullF (sta L)) : (doB L d).2 = errF (sta L) d ∧ ∀ m n, sta (doB L d).1 m n = stepF (sta L) d m n := by
  unfold doB
  by_cases hr : right d = true
  · rw [if_pos hr]
    by_cases hk : d.kind = 0
    · rw [if_pos hk]
      obtain ⟨h1, h2⟩ := take_F h hr hk
      exact ⟨h1, fun m n => (sta_merge (takeB_ord h hr hk) m n).trans (h2 m n)⟩
    · rw [if_neg hk]
      obtain ⟨h1, h2⟩ := move_F h hf hr hk
      exact ⟨h1, fun m n => (sta_merge (moveB_ord h hr).1 m n).trans (h2 m n)⟩
  · rw [if_neg hr]
    have : errF (sta L) d = 1 := by unfold errF; rw [if_pos (by simpa using hr)]
    refine ⟨this.symm, fun m n => ?_⟩
    unfold stepF
    rw [this, if_neg (by decide)]
theorem step_full {F : Int → Int → Option Sta} {d : Deed} (hf : FullF F) : FullF (stepF F d) := by
  intro m n k h0 hk hx
  by_cases he : errF F d = 0
  case neg =>
    unfold stepF at *
    rw [if_neg he] at *
    exact hf m n k h0 hk hx
  have hr : right d = true := by
    cases hr : right d
    · unfold errF at he; rw [if_pos hr] at he; cases he
    · rfl
  by_cases hd : d.kind = 0
  · obtain ⟨s, hs, hm, hf0⟩ := right_take hr hd
    unfold stepF at *
    rw [if_pos he] at *
    by_cases h1 : Has d.spans m k
    · rw [if_pos h1, if_pos hd]; exact ⟨_, rfl⟩
    · rw [if_neg h1]
      by_cases h2 : Has d.spans m n
      · rw [hs, Has.one] at h1 h2
        exact (h1 ⟨h2.1, by omega, by omega⟩).elim
      · rw [if_neg h2] at hx
        exact hf m n k h0 hk hx
  · have key : ∀ j, (∃ x, stepF F d m j = some x) ↔ ∃ x, F m j = some x := fun j => by
      unfold stepF
      rw [if_pos he, if_neg hd]
      split
      · cases F m j <;> simp
      · exact Iff.rfl
    rw [key] at *
    exact hf m n k h0 hk hx
def keyF (F : Int → Int → Option Sta) : Prop := ∀ m n x, F m n = some x → isKey x.o = true ∧ isKey x.h = true
theorem right_who {d : Deed} (h : right d = true) (hk : d.kind = 1 ∨ d.kind = 2) : isKey d.who = true ∧ d.who ≠ d.author := by
  unfold right at h
  split at h
  · cases h
  · rw [if_neg (by omega)] at h
    split at h
    · simp at h; exact h
    · rw [if_pos (by omega)] at h
      simp at h; exact ⟨h.1, h.2.1⟩
theorem right_kind {d : Deed} (h : right d = true) : d.kind = 0 ∨ d.kind = 1 ∨ d.kind = 2 ∨ d.kind = 3 := by
  unfold right at h
  split at h
  · cases h
  · split at h
    · omega
    · split at h
      · omega
      · split at h
        · omega
        · simp at h; omega
theorem err_right {F : Int → Int → Option Sta} {d : Deed} (he : errF F d = 0) : right d = true := by
  cases hr : right d
  · unfold errF at he; rw [if_pos hr] at he; cases he
  · rfl
theorem step_key {F : Int → Int → Option Sta} {d : Deed} (hf : keyF F) : keyF (stepF F d) := by
  intro m n x hx
  by_cases he : errF F d = 0
  case neg =>
    unfold stepF at hx
    rw [if_neg he] at hx
    exact hf m n x hx
  have hr := err_right he
  have ha := (right_parts hr).2.2.1
  unfold stepF at hx
  rw [if_pos he] at hx
  split at hx
  · split at hx
    · cases hx; exact ⟨ha, ha⟩
    · rename_i hk
      obtain ⟨y, hy, rfl⟩ := Option.map_eq_some_iff.1 hx
      have := hf m n y hy
      unfold movedS
      split
      · have := right_who hr (.inl (by assumption)); exact ⟨this.1, this.1⟩
      · split
        · have h2 := right_who hr (.inr (by assumption)); exact ⟨this.1, h2.1⟩
        · split <;> exact this
  · exact hf m n x hx
/-- Lots, as the deeds leave them. -/
structure Good (L : List Lot) : Prop where
  ord : Ord L
  mgd : Mgd L
  full : FullF (sta L)
  key : keyF (sta L)
theorem sta_fun {L : List Lot} {F : Int → Int → Option Sta} (h : ∀ m n, sta L m n = F m n) : sta L = F := by funext m n; exact h m n
theorem good_do {L : List Lot} {d : Deed} (h : Good L) (hs : d.spans.length ≤ 8) : Good (doB L d).1 ∧ (doB L d).2 = errF (sta L) d ∧ sta (doB L d).1 = stepF (sta L) d := by
  obtain ⟨k1, k2, _⟩ := doB_keeps h.ord h.mgd hs
  obtain ⟨f1, f2⟩ := do_F (d := d) h.ord h.full
  have e := sta_fun f2
  exact ⟨⟨k1, k2, by rw [e]; exact step_full h.full, by rw [e]; exact step_key h.key⟩, f1, e⟩
theorem good_nil : Good [] := ⟨⟨fun l hl => (by cases hl), .nil⟩, fun i a b h => (by simp at h), fun m n k _ _ ⟨x, hx⟩ => (by cases hx), fun m n x hx => (by cases hx)⟩
theorem good_lots : ∀ (n : Nat) (l : List Deed), l.length = n → (∀ d ∈ l, d.spans.length ≤ 8) → Good (lotsK l).1
  | 0, l, hn, _ => by
    have := List.eq_nil_of_length_eq_zero hn
    subst this
    exact good_nil
  | n + 1, l, hn, hs => by
    rcases List.eq_nil_or_concat l with rfl | ⟨l', d, rfl⟩
    · simp at hn
    · simp only [List.concat_eq_append] at *
      have := good_do (d := d) (good_lots n l' (by simpa using hn) (fun x hx => hs x (by simp [hx]))) (hs d (by simp))
      rw [lotsK_snoc]
      exact this.1
/-! ### Lots are known by their coins -/
theorem mgd_tail {l : Lot} {L : List Lot} (h : Mgd (l :: L)) : Mgd L := fun i a b ha hb => h (i + 1) a b (by simpa using ha) (by simpa using hb)
theorem sta_tail {l : Lot} {L : List Lot} (h : Ord (l :: L)) {m n : Int} : sta L m n = if inLot m n l = true then none else sta (l :: L) m n := by
  by_cases hc : inLot m n l = true
  · rw [if_pos hc]
    exact sta_none.2 fun ⟨x, hx, hx'⟩ => by rw [ord_apart h hc x hx] at hx'; cases hx'
  · rw [if_neg hc, sta_cons, if_neg hc]
theorem ord_first {l : Lot} {L : List Lot} (h : Ord (l :: L)) {m n : Int} {x : Sta} (hx : sta (l :: L) m n = some x) : l.s.m < m ∨ (l.s.m = m ∧ l.s.f ≤ n) := by
  obtain ⟨y, hy, hc, _⟩ := sta_mem hx
  rw [inLot_iff] at hc
  rcases List.mem_cons.1 hy with rfl | hy
  · omega
  · have h1 := (List.pairwise_cons.1 h.ord).1 y hy
    have h2 := h.ok l (List.mem_cons_self ..)
    unfold bef at h1; unfold lotOk at h2; omega
theorem lot_end {a b : Lot} {A B : List Lot} (hA : Ord (a :: A)) (hB : Ord (b :: B)) (mA : Mgd (a :: A)) (e : sta (a :: A) = sta (b :: B)) (hm : a.s.m = b.s.m) (hf : a.s.f = b.s.f) : b.s.t ≤ a.s.t := by
  rcases Int.lt_or_le a.s.t b.s.t with hlt | hge
  · exfalso
    have okA := hA.ok a (List.mem_cons_self ..)
    have okB := hB.ok b (List.mem_cons_self ..)
    unfold lotOk at okA okB
    have hb : inLot a.s.m a.s.t b = true := inLot_iff.2 (by omega)
    have h1 : sta (a :: A) a.s.m a.s.t = some (stL b) := by rw [e]; exact sta_some hB (List.mem_cons_self ..) hb
    have h0 : stL a = stL b := by
      have x1 := sta_first hA (List.mem_cons_self ..)
      have x2 := sta_first hB (List.mem_cons_self ..)
      rw [e, hm, hf, x2] at x1
      exact (Option.some.inj x1).symm
    have h2 : sta A a.s.m a.s.t = some (stL b) := by
      rw [sta_cons, if_neg (by rw [inLot_iff]; omega)] at h1; exact h1
    cases A with
    | nil => cases h2
    | cons c C =>
      obtain ⟨y, hy, hc, hst⟩ := sta_mem h2
      rw [inLot_iff] at hc
      have hc1 := (List.pairwise_cons.1 hA.ord).1 c (List.mem_cons_self ..)
      have okc := hA.ok c (by simp)
      unfold lotOk at okc; unfold bef at hc1
      have hyc : y = c := by
        rcases List.mem_cons.1 hy with h | h
        · exact h
        · have := (List.pairwise_cons.1 (ord_tail hA).ord).1 y h
          unfold bef at this; omega
      subst hyc
      have := mA 0 a y rfl rfl
      have hs : stL a = stL y := h0.trans hst.symm
      unfold stL at hs
      simp only [Sta.mk.injEq] at hs
      have hal : alike a y = true := by unfold alike; simp [hs]; omega
      rw [hal] at this; cases this
  · exact hge
theorem lots_ext : ∀ {A B : List Lot}, Ord A → Ord B → Mgd A → Mgd B → sta A = sta B → A = B
  | [], [], _, _, _, _, _ => rfl
  | a :: A, [], hA, _, _, _, e => by
    have := sta_first hA (List.mem_cons_self ..)
    rw [e] at this; cases this
  | [], b :: B, _, hB, _, _, e => by
    have := sta_first hB (List.mem_cons_self ..)
    rw [← e] at this; cases this
  | a :: A, b :: B, hA, hB, mA, mB, e => by
    have x1 := sta_first hA (List.mem_cons_self ..)
    have x2 := sta_first hB (List.mem_cons_self ..)
    have y1 := ord_first hB (by rw [← e]; exact x1)
    have y2 := ord_first hA (by rw [e]; exact x2)
    have hm : a.s.m = b.s.m := by omega
    have hf : a.s.f = b.s.f := by omega
    have t1 := lot_end hA hB mA e hm hf
    have t2 := lot_end hB hA mB e.symm hm.symm hf.symm
    have hst : stL a = stL b := by
      rw [e, hm, hf, x2] at x1
      exact (Option.some.inj x1).symm
    unfold stL at hst
    simp only [Sta.mk.injEq] at hst
    have hab : a = b := Lot.ext' (Span.ext' hm hf (by omega)) hst.1 hst.2.1 hst.2.2.1 hst.2.2.2
    subst hab
    have : A = B := lots_ext (ord_tail hA) (ord_tail hB) (mgd_tail mA) (mgd_tail mB) (by
      funext m n
      rw [sta_tail hA, sta_tail hB, e])
    rw [this]
theorem Good.ext {A B : List Lot} (hA : Good A) (hB : Good B) (e : sta A = sta B) : A = B := lots_ext hA.ord hB.ord hA.mgd hB.mgd e
end Go.Proofs.YtjilbkioieicbaaGreat

/- How many coins. -/
namespace Go.Proofs.YtjilbkioieicbaaGreat
open Go.Vc Rt
set_option linter.unusedVariables false
set_option linter.unusedSimpArgs false
/-! ### Spans in order -/
def befS (a b : Span) : Prop := a.m < b.m ∨ (a.m = b.m ∧ a.t ≤ b.f)
theorem join_total {out : List Span} {s : Span} (h : ∀ x ∈ out, befS x s) (hs : s.f < s.t) : total (join out s) = total out + (s.t - s.f) ∧ ∀ z, befS s z → (∀ x ∈ out, befS x z) → ∀ x ∈ join out s, befS x z := by
  rcases List.eq_nil_or_concat out with rfl | ⟨o, r, rfl⟩
  · refine ⟨by simp [join, total], fun z hz _ x hx => ?_⟩
    simp [join] at hx; subst hx; exact hz
  · simp only [List.concat_eq_append] at *
    rw [join_snoc]
    have hr := h r (by simp)
    split
    · rename_i hc
      refine ⟨?_, fun z hz ho x hx => ?_⟩
      · rw [total_append, total_append]
        simp only [total, List.map_cons, List.map_nil, List.sum_cons, List.sum_nil]
        unfold befS at hr; omega
      · rcases List.mem_append.1 hx with hx | hx
        · exact ho x (by simp [hx])
        · simp at hx; subst hx
          unfold befS at *; simp only; omega
    · refine ⟨by rw [total_append]; simp [total], fun z hz ho x hx => ?_⟩
      rcases List.mem_append.1 hx with hx | hx
      · exact ho x hx
      · simp at hx; subst hx; exact hz
theorem joins_total : ∀ {l out : List Span}, (∀ x ∈ out, ∀ s ∈ l, befS x s) → l.Pairwise befS → (∀ s ∈ l, s.f < s.t) → total (l.foldl join out) = total out + total l
  | [], out, _, _, _ => by simp [total]
  | s :: l, out, h, hp, hs => by
    obtain ⟨p1, p2⟩ := List.pairwise_cons.1 hp
    obtain ⟨j1, j2⟩ := join_total (out := out) (s := s) (fun x hx => h x hx s (List.mem_cons_self ..)) (hs s (List.mem_cons_self ..))
    rw [List.foldl_cons, joins_total (fun x hx z hz => j2 z (p1 z hz) (fun y hy => h y hy z (List.mem_cons_of_mem _ hz)) x hx) p2 (fun x hx => hs x (List.mem_cons_of_mem _ hx)), j1]
    simp only [total, List.map_cons, List.sum_cons]; omega
theorem norm_total {l : List Span} (hv : ∀ s ∈ l, valid s = true) (hp : l.Pairwise befS) : total (norm l) = total l := by
  have hf : l.filter valid = l := List.filter_eq_self.2 hv
  have hp2 : l.Pairwise le2 := List.Pairwise.imp_of_mem (fun {a b} ha hb h => by
    have := valid_lt (hv a ha)
    unfold befS at h; unfold le2; omega) hp
  have e := norm_of_sorted (l := l) (ys := l) (by rw [hf]) hp2
  rw [← e]
  unfold joinAll
  rw [joins_total (fun x hx => by cases hx) hp (fun s hs => valid_lt (hv s hs))]
  simp [total]
theorem norm_id {l : List Span} (h : NF l) (hv : ∀ s ∈ l, valid s = true) : norm l = l := by
  obtain ⟨n1, n2⟩ := norm_spec l
  have hf : l.filter valid = l := List.filter_eq_self.2 hv
  exact n1.ext h (fun m n => by rw [n2, hf])
theorem norm_norm (l : List Span) : norm (norm l) = norm l := norm_id (norm_spec l).1 norm_valid
theorem count_norm (l : List Span) : count (norm l) = total (norm l) := by unfold count; rw [norm_norm]
theorem gap_trans {a b c : Span} (h : gap a b) (h' : gap b c) (hb : b.f < b.t) : gap a c := by unfold gap at *; omega
theorem normal_gap {l : List Span} (h : normal l = true) : ∀ (j : Nat) (i : Nat) a b, i < j → l[i]? = some a → l[j]? = some b → gap a b
  | 0, i, a, b, hij, _, _ => by omega
  | j + 1, i, a, b, hij, ha, hb => by
    have hj : j + 1 < l.length := (List.getElem?_eq_some_iff.1 hb).1
    have hr : l[j]? = some l[j] := List.getElem?_eq_getElem (by omega)
    have hv := normal_valid h l[j] (List.getElem_mem _)
    have ok : okAt l (j + 1) = true := by
      unfold normal at h
      rw [List.all_eq_true] at h
      exact h (j + 1) (List.mem_range.2 hj)
    unfold okAt at ok
    rw [hb] at ok
    simp only [Nat.add_sub_cancel, hr] at ok
    have hg : gap l[j] b := by
      simp at ok
      unfold gap; omega
    rcases Nat.eq_or_lt_of_le (show i ≤ j by omega) with rfl | hlt
    · rw [hr] at ha; cases ha; exact hg
    · exact gap_trans (normal_gap h j i a _ hlt ha hr) hg (valid_lt hv)
theorem normal_nf {l : List Span} (h : normal l = true) : NF l :=
  ⟨fun s hs => valid_lt (normal_valid h s hs), List.pairwise_iff_getElem.2 fun i j hi hj hij => normal_gap h j i _ _ hij (List.getElem?_eq_getElem hi) (List.getElem?_eq_getElem hj)⟩
theorem normal_count {l : List Span} (h : normal l = true) : count l = total l := by unfold count; rw [norm_id (normal_nf h) (normal_valid h)]
/-! ### Coins of lots of a kind -/
def sizeL (l : Lot) : Int := l.s.t - l.s.f
def mz (q : Sta → Bool) (L : List Lot) : Int := (L.map (fun l => if q (stL l) then sizeL l else 0)).sum
theorem mz_nil {q : Sta → Bool} : mz q [] = 0 := rfl
theorem mz_cons {q : Sta → Bool} {l : Lot} {L : List Lot} : mz q (l :: L) = (if q (stL l) then sizeL l else 0) + mz q L := by simp [mz]
theorem mz_append {q : Sta → Bool} {A B : List Lot} : mz q (A ++ B) = mz q A + mz q B := by simp [mz]
theorem mz_split {q : Sta → Bool} {m n : Int} : ∀ {L : List Lot}, mz q (split m n L) = mz q L
  | [] => rfl
  | l :: L => by
    simp only [split]
    split
    · rw [mz_cons, mz_cons, mz_cons]
      have e1 : stL (lotTo l n) = stL l := rfl
      have e2 : stL (lotFrom l n) = stL l := rfl
      rw [e1, e2]
      split
      · simp only [sizeL, lotTo, lotFrom]; omega
      · omega
    · rw [mz_cons, mz_cons, mz_split]
theorem mz_cut {q : Sta → Bool} {s : Span} {L : List Lot} : mz q (cutAt s L) = mz q L := by unfold cutAt; rw [mz_split, mz_split]
theorem joinL_mz {q : Sta → Bool} {out : List Lot} {l : Lot} : mz q (joinL out l) = mz q (out ++ [l]) := by
  rcases List.eq_nil_or_concat out with rfl | ⟨o, r, rfl⟩
  · rfl
  · simp only [List.concat_eq_append] at *
    rw [joinL_snoc]
    split
    · rename_i hc
      unfold alike at hc
      simp at hc
      rw [mz_append, mz_append, mz_append, mz_cons, mz_cons, mz_cons, mz_nil]
      have e1 : stL (lotTo r l.s.t) = stL r := rfl
      have e2 : stL l = stL r := Sta.ext' hc.1.symm hc.2.1.symm hc.2.2.1.symm hc.2.2.2.1.symm
      rw [e1, e2]
      split
      · simp only [sizeL, lotTo]; omega
      · omega
    · rfl
theorem fold_mz {q : Sta → Bool} : ∀ {L out : List Lot}, mz q (L.foldl joinL out) = mz q (out ++ L)
  | [], out => by simp
  | l :: L, out => by
    rw [List.foldl_cons, fold_mz, mz_append, joinL_mz, ← mz_append]; simp
theorem mz_merge {q : Sta → Bool} {L : List Lot} : mz q (mergeL L) = mz q L := by unfold mergeL; rw [fold_mz]; simp
theorem mz_run {q : Sta → Bool} {d : Deed} : ∀ {l : List Span} {L : List Lot} {e : Int}, mz q (mvRun d l L e).1 = mz q L
  | [], L, e => rfl
  | s :: l, L, e => by
    simp only [mvRun]
    split
    · rw [mz_run, mz_cut]
    · exact mz_cut
/-- The lots of a span have its coins. -/
theorem seg_sum : ∀ {L : List Lot} {s : Span}, Ord L → NoCut L s.m s.f → NoCut L s.m s.t → s.f ≤ s.t → (∀ n, s.f ≤ n → n < s.t → Cov L s.m n) → ((L.filter (inSp s)).map sizeL).sum = s.t - s.f
  | [], s, _, _, _, hs, hc => by
    rcases Int.lt_or_le s.f s.t with h | h
    · obtain ⟨l, hl, _⟩ := hc s.f (Int.le_refl _) h
      cases hl
    · simp; omega
  | l :: L, s, ho, h1, h2, hs, hc => by
    have ht := ord_tail ho
    have h1' : NoCut L s.m s.f := fun x hx => h1 x (List.mem_cons_of_mem _ hx)
    have h2' : NoCut L s.m s.t := fun x hx => h2 x (List.mem_cons_of_mem _ hx)
    have hl := ho.ok l (List.mem_cons_self ..)
    have hb := (List.pairwise_cons.1 ho.ord).1
    unfold lotOk at hl
    cases hi : inSp s l
    · rw [List.filter_cons_of_neg (by simp [hi])]
      refine seg_sum ht h1' h2' hs fun n a b => ?_
      have := hc n a b
      rw [Cov.cons] at this
      refine this.resolve_left fun h' => ?_
      rw [nocut_in h1 h2 (List.mem_cons_self ..) h' ⟨a, b⟩] at hi; cases hi
    · rw [List.filter_cons_of_pos hi, List.map_cons, List.sum_cons]
      rw [inSp_iff] at hi
      have hf : l.s.f = s.f := by
        have := hc s.f (Int.le_refl _) (by omega)
        rw [Cov.cons] at this
        rcases this with h' | ⟨x, hx, h'⟩
        · rw [inLot_iff] at h'; omega
        · have := hb x hx
          rw [inLot_iff] at h'
          unfold bef at this; omega
      have ih := seg_sum (L := L) (s := ⟨s.m, l.s.t, s.t⟩) ht (fun x hx => by
          have hx1 := hb x hx
          cases hq : cutsIn s.m l.s.t x
          · rfl
          · rw [cutsIn_iff] at hq; unfold bef at hx1; omega) h2' hi.2.2 (fun n a b => by
          simp only at a b
          have := hc n (by omega) b
          rw [Cov.cons] at this
          refine this.resolve_left fun h' => ?_
          rw [inLot_iff] at h'; omega)
      have hfe : L.filter (inSp s) = L.filter (inSp ⟨s.m, l.s.t, s.t⟩) := List.filter_congr fun x hx => by
        have hx1 := hb x hx
        have hx2 := ho.ok x (List.mem_cons_of_mem _ hx)
        unfold bef at hx1; unfold lotOk at hx2
        rw [Bool.eq_iff_iff, inSp_iff, inSp_iff]
        simp only; omega
      rw [hfe, ih]
      simp only [sizeL]; omega
/-- Coins that are spent. -/
def isOpen (x : Sta) : Bool := decide (x.p = -1)
theorem mz_upd_same {q : Sta → Bool} {d : Deed} {s : Span} (hq : ∀ x, q (movedS d x) = q x) : ∀ {L : List Lot}, mz q (L.map (fun l => if inSp s l then movedL d l else l)) = mz q L
  | [] => rfl
  | l :: L => by
    rw [List.map_cons, mz_cons, mz_cons, mz_upd_same hq]
    congr 1
    split
    · rw [moved_st, hq]
      have : sizeL (movedL d l) = sizeL l := by unfold sizeL; rw [movedL_s]
      rw [this]
    · rfl
theorem mz_upd_spent {d : Deed} {s : Span} (hq : ∀ x, isOpen (movedS d x) = false) : ∀ {L : List Lot}, (∀ l ∈ L, inSp s l = true → isOpen (stL l) = true) → mz isOpen (L.map (fun l => if inSp s l then movedL d l else l)) = mz isOpen L - ((L.filter (inSp s)).map sizeL).sum
  | [], _ => by simp [mz]
  | l :: L, h => by
    rw [List.map_cons, mz_cons, mz_cons, mz_upd_spent hq (fun x hx => h x (List.mem_cons_of_mem _ hx))]
    cases hi : inSp s l
    · rw [List.filter_cons_of_neg (by simp [hi])]
      simp only [Bool.false_eq_true, if_false]; omega
    · rw [List.filter_cons_of_pos hi, List.map_cons, List.sum_cons]
      simp only [if_true]
      rw [moved_st, hq, h l (List.mem_cons_self ..) hi]
      simp only [Bool.false_eq_true, if_false, if_true]; omega
theorem mv2_mz_same {q : Sta → Bool} {d : Deed} (hq : ∀ x, q (movedS d x) = q x) : ∀ {l : List Span} {L : List Lot}, Ord L → (∀ s ∈ l, Cov L s.m s.f ∧ Cov L s.m (s.t - 1) ∧ s.f < s.t) → mz q (mv2 d l L) = mz q L
  | [], L, h, _ => rfl
  | s :: l, L, h, hc => by
    obtain ⟨c1, c2, c3⟩ := hc s (List.mem_cons_self ..)
    have hb := cutB_of h c1 c2 c3
    obtain ⟨f1, f2⟩ := cut_form h hb c3 (movedL d)
    have hsp : ((cutAt s L).map (fun l => if inSp s l then movedL d l else l)).map (·.s) = (cutAt s L).map (·.s) := by
      rw [List.map_map]
      refine List.map_congr_left fun l _ => ?_
      simp only [Function.comp]
      split
      · exact movedL_s d l
      · rfl
    have ho := ord_congr hsp.symm (cutAt_ord (s := s) h)
    have hcv : ∀ m n, Cov ((cutAt s L).map (fun l => if inSp s l then movedL d l else l)) m n ↔ Cov L m n := fun m n => (cov_congr hsp).trans cutAt_cov
    simp only [mv2]
    rw [f2, mv2_mz_same hq ho (fun x hx => by rw [hcv, hcv]; exact hc x (List.mem_cons_of_mem _ hx)), mz_upd_same hq, mz_cut]
theorem mv2_mz_spent {d : Deed} (hq : ∀ x, isOpen (movedS d x) = false) : ∀ {l : List Span} {L : List Lot}, Ord L → (∀ s ∈ l, s.f < s.t ∧ ∀ n, s.f ≤ n → n < s.t → ∃ x, sta L s.m n = some x ∧ isOpen x = true) → l.Pairwise gap → mz isOpen (mv2 d l L) = mz isOpen L - total l
  | [], L, h, _, _ => by simp [mv2, total]
  | s :: l, L, h, hc, hp => by
    obtain ⟨c3, c4⟩ := hc s (List.mem_cons_self ..)
    have hcov : ∀ n, s.f ≤ n → n < s.t → Cov L s.m n := fun n a b => by
      obtain ⟨x, hx, _⟩ := c4 n a b
      exact sta_cov.2 ⟨x, hx⟩
    have hb := cutB_of h (hcov s.f (Int.le_refl _) c3) (hcov (s.t - 1) (by omega) (by omega)) c3
    obtain ⟨f1, f2⟩ := cut_form h hb c3 (movedL d)
    obtain ⟨n1, n2⟩ := cut_nocut (s := s) h
    obtain ⟨p1, p2⟩ := List.pairwise_cons.1 hp
    have hsp : ((cutAt s L).map (fun l => if inSp s l then movedL d l else l)).map (·.s) = (cutAt s L).map (·.s) := by
      rw [List.map_map]
      refine List.map_congr_left fun l _ => ?_
      simp only [Function.comp]
      split
      · exact movedL_s d l
      · rfl
    have hco := cutAt_ord (s := s) h
    have ho := ord_congr hsp.symm hco
    simp only [mv2]
    rw [f2, mv2_mz_spent hq ho (fun z hz => ?_) p2, mz_upd_spent hq (fun x hx hi => ?_), mz_cut, seg_sum hco n1 n2 (by omega) (fun n a b => cutAt_cov.2 (hcov n a b))]
    · simp only [total, List.map_cons, List.sum_cons]; omega
    · have hx1 := hco.ok x hx
      rw [inSp_iff] at hi
      unfold lotOk at hx1
      obtain ⟨y, hy, hy'⟩ := c4 x.s.f hi.2.1 (by omega)
      rw [← sta_cut (s := s), ← hi.1, sta_first hco hx] at hy
      cases hy; exact hy'
    · obtain ⟨z1, z2⟩ := hc z (List.mem_cons_of_mem _ hz)
      refine ⟨z1, fun n a b => ?_⟩
      rw [sta_upd n1 n2, sta_cut, if_neg (fun h' => ?_)]
      · exact z2 n a b
      · have := p1 z hz
        unfold gap at this; omega
/-! ### One deed -/
def paid (k : Int) (d : Deed) (e : Int) : Int := if e = 0 ∧ d.kind = k then count d.spans else 0
theorem mz_ins {q : Sta → Bool} {L : List Lot} {i : Nat} {x : Lot} : mz q (insL L i x) = mz q L + (if q (stL x) then sizeL x else 0) := by
  unfold insL
  rw [mz_append, mz_append, mz_cons, mz_nil]
  have : mz q L = mz q (L.take i) + mz q (L.drop i) := by rw [← mz_append, List.take_append_drop]
  omega
theorem mayS_open {x : Sta} {d : Deed} (h : mayS x d = 0) : x.p = -1 := by
  unfold mayS at h
  split at h
  · cases h
  · rename_i h'; omega
theorem errSet_all {F : Int → Int → Option Sta} {l : List Span} {d : Deed} (h : errSet (fun c => ∃ m n x, Has l m n ∧ F m n = some x ∧ mayS x d = c) = 0) : ∀ m n x, Has l m n → F m n = some x → mayS x d = 0 := fun m n x h1 h2 => by
  obtain ⟨a, b, c⟩ := errSet_zero h
  rcases mayS_is x d with h' | h' | h' | h'
  · exact h'
  · exact (a ⟨m, n, x, h1, h2, h'⟩).elim
  · exact (b ⟨m, n, x, h1, h2, h'⟩).elim
  · exact (c ⟨m, n, x, h1, h2, h'⟩).elim
theorem errF_move {F : Int → Int → Option Sta} {d : Deed} (he : errF F d = 0) (hk : d.kind ≠ 0) : ∀ m n, Has d.spans m n → ∃ x, F m n = some x ∧ mayS x d = 0 := by
  have hr := err_right he
  unfold errF at he
  rw [if_neg (by rw [hr]; simp), if_neg hk] at he
  split at he
  · cases he
  · rename_i hn
    intro m n hh
    cases hx : F m n with
    | none => exact (hn ⟨m, n, hh, hx⟩).elim
    | some x => exact ⟨x, rfl, errSet_all he m n x hh hx⟩
theorem do_mz {L : List Lot} {d : Deed} (h : Good L) : mz (fun _ => true) (doB L d).1 = mz (fun _ => true) L + paid 0 d (doB L d).2 ∧ mz isOpen (doB L d).1 = mz isOpen L + paid 0 d (doB L d).2 - paid 3 d (doB L d).2 := by
  by_cases he : (doB L d).2 = 0
  case neg =>
    rw [doB_refused h.mgd he]
    unfold paid
    rw [if_neg (fun h' => he h'.1), if_neg (fun h' => he h'.1)]
    omega
  have e0 := he
  rw [(do_F (d := d) h.ord h.full).1] at e0
  have hr := err_right e0
  have hn := (right_parts hr).2.2.2.2
  have hcnt := normal_count hn
  rw [he]
  unfold doB at *
  rw [if_pos hr] at *
  by_cases hk : d.kind = 0
  · rw [if_pos hk] at *
    obtain ⟨s, hs, hm, hf⟩ := right_take hr hk
    simp only at *
    rw [mz_merge, mz_merge]
    unfold takeB at *
    split at he
    · cases he
    · rename_i hth
      rw [if_neg hth, hs]
      simp only [List.headD_cons]
      have p0 : paid 0 d 0 = s.t - s.f := by unfold paid; rw [if_pos ⟨rfl, hk⟩, hcnt, hs]; simp [total]
      have p3 : paid 3 d 0 = 0 := by unfold paid; rw [if_neg (by omega)]
      rw [mz_ins, mz_ins, p0, p3]
      simp [sizeL, isOpen, stL]
  · rw [if_neg hk] at *
    simp only at *
    rw [mz_merge, mz_merge]
    have hall := errF_move e0 hk
    obtain ⟨m1, m2, m3, m4⟩ := mvRun_spec (d := d) (l := d.spans) (e := 0) h.ord
    obtain ⟨k1, k2, k3⟩ := mvRun_form (d := d) (l := d.spans) (e := 0) h.ord h.full (fun s hs => by have := right_spans hr s hs; omega) (.inl rfl)
    have hmv : (moveB L d).1 = mv2 d d.spans (mvRun d d.spans L 0).1 := by
      unfold moveB at *
      simp only at *
      split at he
      · cases he
      · split at he
        · rename_i h1 h2; exact (h2 he).elim
        · rename_i h1 h2; rw [if_neg h1, if_neg h2]
    have hc : (mvRun d d.spans L 0).2.2 = true := k2.2 (all_iff.2 fun ⟨m, n, h1, h2⟩ => by
      obtain ⟨x, hx, _⟩ := hall m n h1
      rw [hx] at h2; cases h2)
    have hcov := m4 hc
    have hcov2 : ∀ s ∈ d.spans, Cov (mvRun d d.spans L 0).1 s.m s.f ∧ Cov (mvRun d d.spans L 0).1 s.m (s.t - 1) ∧ s.f < s.t := fun s hs => by
      rw [m2, m2]; exact ⟨(hcov s hs).1, (hcov s hs).2, by have := right_spans hr s hs; omega⟩
    rw [hmv]
    refine ⟨?_, ?_⟩
    · rw [mv2_mz_same (fun _ => rfl) m1 hcov2, mz_run]
      unfold paid; rw [if_neg (fun h' => hk h'.2)]; omega
    · by_cases hk3 : d.kind = 3
      · have hmk := (right_parts hr).1
        have hq : ∀ x, isOpen (movedS d x) = false := fun x => by
          unfold movedS isOpen
          rw [if_neg (by omega), if_neg (by omega), if_pos hk3]
          simp; omega
        have hall2 : ∀ s ∈ d.spans, s.f < s.t ∧ ∀ n, s.f ≤ n → n < s.t → ∃ x, sta (mvRun d d.spans L 0).1 s.m n = some x ∧ isOpen x = true := fun s hs => ⟨by have := right_spans hr s hs; omega, fun n a b => by
          obtain ⟨x, hx, hx'⟩ := hall s.m n ⟨s, hs, rfl, a, b⟩
          exact ⟨x, by rw [k1]; exact hx, by unfold isOpen; rw [mayS_open hx']; rfl⟩⟩
        rw [mv2_mz_spent hq m1 hall2 (normal_nf hn).ord, mz_run]
        unfold paid; rw [if_neg (by omega), if_pos ⟨rfl, hk3⟩, hcnt]; omega
      · have hq : ∀ x, isOpen (movedS d x) = isOpen x := fun x => by
          unfold movedS isOpen
          split
          · rfl
          · split
            · rfl
            · rfl
        rw [mv2_mz_same hq m1 hcov2, mz_run]
        unfold paid; rw [if_neg (fun h' => hk h'.2), if_neg (fun h' => hk3 h'.2)]; omega
/-- What was taken, what was spent. -/
def paidAll (k : Int) (l : List Deed) (es : List Int) : Int := ((l.zip es).map fun p => paid k p.1 p.2).sum
theorem paid_snoc {k : Int} {l : List Deed} {es : List Int} (h : l.length = es.length) (d : Deed) (e : Int) : paidAll k (l ++ [d]) (es ++ [e]) = paidAll k l es + paid k d e := by
  unfold paidAll
  rw [List.zip_append h, List.map_append, List.sum_append]
  simp
theorem lots_mz : ∀ (n : Nat) (l : List Deed), l.length = n → (∀ d ∈ l, d.spans.length ≤ 8) → mz (fun _ => true) (lotsK l).1 = paidAll 0 l (lotsK l).2 ∧ mz isOpen (lotsK l).1 = paidAll 0 l (lotsK l).2 - paidAll 3 l (lotsK l).2
  | 0, l, hn, _ => by
    have := List.eq_nil_of_length_eq_zero hn
    subst this
    exact ⟨rfl, rfl⟩
  | n + 1, l, hn, hs => by
    rcases List.eq_nil_or_concat l with rfl | ⟨l', d, rfl⟩
    · simp at hn
    · simp only [List.concat_eq_append] at *
      have hs' : ∀ x ∈ l', x.spans.length ≤ 8 := fun x hx => hs x (by simp [hx])
      obtain ⟨h1, h2⟩ := lots_mz n l' (by simpa using hn) hs'
      obtain ⟨k1, k2⟩ := do_mz (d := d) (good_lots n l' (by simpa using hn) hs')
      rw [lotsK_snoc]
      simp only
      rw [paid_snoc (by rw [lotsK_errs]), paid_snoc (by rw [lotsK_errs]), k1, k2, h1, h2]
      omega
/-! ### Who has how much -/
theorem openL_total {p : Lot → Bool} : ∀ {L : List Lot}, total (openL p L) = (L.map (fun l => if decide (l.p = -1) && p l then sizeL l else 0)).sum
  | [] => rfl
  | l :: L => by
    have ih := openL_total (p := p) (L := L)
    unfold openL at *
    rw [List.filter_cons, List.map_cons, List.sum_cons, ← ih]
    split
    · rw [List.map_cons]; simp only [total, List.map_cons, List.sum_cons, sizeL]
    · simp
theorem openL_norm {p : Lot → Bool} {L : List Lot} (h : Ord L) : count (norm (openL p L)) = total (openL p L) := by
  rw [count_norm]
  refine norm_total (fun s hs => ?_) ?_
  · unfold openL at hs
    obtain ⟨l, hl, rfl⟩ := List.mem_map.1 hs
    have := h.ok l ((List.mem_filter.1 hl).1)
    unfold lotOk at this
    unfold valid isMark; simp; omega
  · unfold openL
    rw [List.pairwise_map]
    exact (h.ord.filter _).imp fun h' => h'
def sumTo (f : Nat → Int) : Nat → Int
  | 0 => 0
  | n + 1 => sumTo f n + f n
theorem sumTo_add {f g : Nat → Int} : ∀ n, sumTo (fun k => f k + g k) n = sumTo f n + sumTo g n
  | 0 => rfl
  | n + 1 => by simp only [sumTo]; rw [sumTo_add n]; omega
theorem sumTo_one {o c : Int} {b : Bool} : ∀ n : Nat, sumTo (fun k => if b && decide (o = (k : Int)) then c else 0) n = if b = true ∧ 0 ≤ o ∧ o < n then c else 0
  | 0 => by simp [sumTo]; omega
  | n + 1 => by
    simp only [sumTo]
    rw [sumTo_one n]
    cases b
    · simp
    · simp only [Bool.true_and, decide_eq_true_eq, true_and]
      by_cases h : o = n
      · rw [if_neg (by omega), if_pos h, if_pos (by omega)]; omega
      · rw [if_neg h, Int.add_zero]
        by_cases h2 : 0 ≤ o ∧ o < n
        · rw [if_pos h2, if_pos (by omega)]
        · rw [if_neg h2, if_neg (by omega)]
theorem sumTo_zero : ∀ n, sumTo (fun _ => 0) n = 0
  | 0 => rfl
  | n + 1 => by simp only [sumTo]; rw [sumTo_zero n]; rfl
theorem keys_total {g : Lot → Int} {N : Nat} : ∀ {L : List Lot}, (∀ l ∈ L, 0 ≤ g l ∧ g l < N) → sumTo (fun k => total (openL (fun l => decide (g l = (k : Int))) L)) N = total (openL (fun _ => true) L)
  | [], _ => by
    have : (fun k : Nat => total (openL (fun l => decide (g l = (k : Int))) [])) = fun _ => 0 := rfl
    rw [this, sumTo_zero]; rfl
  | l :: L, h => by
    have ih := keys_total (g := g) (L := L) (fun x hx => h x (List.mem_cons_of_mem _ hx))
    have hk := h l (List.mem_cons_self ..)
    simp only [openL_total, List.map_cons, List.sum_cons] at *
    rw [sumTo_add, ih, sumTo_one]
    congr 1
    simp only [Bool.and_true, decide_eq_true_eq]
    by_cases hp : l.p = -1
    · rw [if_pos ⟨hp, by omega, by omega⟩, if_pos hp]
    · rw [if_neg (fun h' => hp h'.1), if_neg hp]
theorem open_mz {L : List Lot} : total (openL (fun _ => true) L) = mz isOpen L := by
  rw [openL_total]; unfold mz isOpen stL; simp
/-- Before a lot that does not begin its receipt lies its neighbor. -/
theorem lot_prev {L : List Lot} (h : Good L) {i : Nat} {x : Lot} (hx : L[i]? = some x) : (0 < x.s.f → 0 < i ∧ ∀ y, L[i - 1]? = some y → y.s.m = x.s.m ∧ y.s.t = x.s.f) ∧ (0 < i → ∀ y, L[i - 1]? = some y → y.s.m ≤ x.s.m ∧ (x.s.f = 0 → y.s.m ≠ x.s.m)) := by
  have okx := h.ord.ok x (List.mem_of_getElem? hx)
  unfold lotOk at okx
  refine ⟨fun hf => ?_, fun hi y hy => ?_⟩
  · obtain ⟨st, hst⟩ := h.full x.s.m x.s.f (x.s.f - 1) (by omega) (by omega) ⟨_, sta_first h.ord (List.mem_of_getElem? hx)⟩
    obtain ⟨z, hz, hc, _⟩ := sta_mem hst
    rw [inLot_iff] at hc
    obtain ⟨j, hj, e⟩ := List.getElem_of_mem hz
    have ej : L[j]? = some z := by rw [List.getElem?_eq_getElem hj, e]
    have hji : j < i := by
      rcases Nat.lt_trichotomy j i with h' | h' | h'
      · exact h'
      · subst h'; rw [hx] at ej; cases ej; omega
      · have := ord_get h.ord hx ej h'
        unfold bef at this; omega
    have hzx := ord_get h.ord ej hx hji
    unfold bef at hzx
    refine ⟨by omega, fun y hy => ?_⟩
    rcases Nat.eq_or_lt_of_le (show j ≤ i - 1 by omega) with h' | h'
    · rw [← h', ej] at hy; cases hy; exact ⟨hc.1, by omega⟩
    · have h1 := ord_get h.ord ej hy h'
      have h2 := ord_get h.ord hy hx (by omega)
      have oky := h.ord.ok y (List.mem_of_getElem? hy)
      unfold bef at h1 h2; unfold lotOk at oky; omega
  · have h2 := ord_get h.ord hy hx (by omega)
    have oky := h.ord.ok y (List.mem_of_getElem? hy)
    unfold bef at h2; unfold lotOk at oky; omega
theorem mz_all {L : List Lot} : mz (fun _ => true) L = (L.map sizeL).sum := by unfold mz; simp
end Go.Proofs.YtjilbkioieicbaaGreat

/- The laws of rights, in plain terms: what a deed changes for its author, its receiver and others. -/
namespace Go.Proofs.YtjilbkioieicbaaGreat
open Go.Vc Rt
set_option linter.unusedVariables false
set_option linter.unusedSimpArgs false
def heldL (L : List Lot) (k : Int) : List Span := norm (openL (fun l => decide (l.h = k)) L)
def ownedL (L : List Lot) (k : Int) : List Span := norm (openL (fun l => decide (l.o = k)) L)
theorem has_open {p : Lot → Bool} {q : Sta → Bool} {L : List Lot} (hpq : ∀ l, p l = q (stL l)) (h : Ord L) {m n : Int} : Has (norm (openL p L)) m n ↔ ∃ x, sta L m n = some x ∧ x.p = -1 ∧ q x = true := by
  rw [has_norm]
  constructor
  · rintro ⟨s, hs, _, h1⟩
    unfold openL at hs
    obtain ⟨l, hl, rfl⟩ := List.mem_map.1 hs
    obtain ⟨hl, hc⟩ := List.mem_filter.1 hl
    simp only [Bool.and_eq_true, decide_eq_true_eq] at hc
    exact ⟨stL l, sta_some h hl (inLot_iff.2 h1), hc.1, by rw [← hpq]; exact hc.2⟩
  · rintro ⟨x, hx, h1, h2⟩
    obtain ⟨l, hl, hc, rfl⟩ := sta_mem hx
    have hok := h.ok l hl
    unfold lotOk at hok
    refine ⟨l.s, ?_, valid_iff.2 hok, inLot_iff.1 hc⟩
    unfold openL
    exact List.mem_map.2 ⟨l, List.mem_filter.2 ⟨hl, by rw [hpq, h2]; have h1 : l.p = -1 := h1; simp [h1]⟩, rfl⟩
theorem has_held {L : List Lot} (h : Ord L) {k m n : Int} : Has (heldL L k) m n ↔ ∃ x, sta L m n = some x ∧ x.p = -1 ∧ x.h = k := by
  refine (has_open (p := fun l => decide (l.h = k)) (q := fun x => decide (x.h = k)) (fun l => rfl) h).trans ?_
  simp
theorem has_owned {L : List Lot} (h : Ord L) {k m n : Int} : Has (ownedL L k) m n ↔ ∃ x, sta L m n = some x ∧ x.p = -1 ∧ x.o = k := by
  refine (has_open (p := fun l => decide (l.o = k)) (q := fun x => decide (x.o = k)) (fun l => rfl) h).trans ?_
  simp
theorem norm_held (L : List Lot) (k : Int) : norm (heldL L k) = heldL L k := norm_norm _
theorem norm_owned (L : List Lot) (k : Int) : norm (ownedL L k) = ownedL L k := norm_norm _
theorem heldL_len (L : List Lot) (k : Int) : (heldL L k).length ≤ L.length := Nat.le_trans (norm_len _) (openL_len _ _)
theorem ownedL_len (L : List Lot) (k : Int) : (ownedL L k).length ≤ L.length := Nat.le_trans (norm_len _) (openL_len _ _)
theorem held_ext {A B : List Lot} (hA : Ord A) (hB : Ord B) {k : Int} (h : ∀ m n, (∃ x, sta A m n = some x ∧ x.p = -1 ∧ x.h = k) ↔ (∃ x, sta B m n = some x ∧ x.p = -1 ∧ x.h = k)) : heldL A k = heldL B k :=
  NF.ext (norm_nf _) (norm_nf _) fun m n => by
    have h1 := has_held hA (k := k) (m := m) (n := n)
    have h2 := has_held hB (k := k) (m := m) (n := n)
    rw [h1, h2]; exact h m n
theorem owned_ext {A B : List Lot} (hA : Ord A) (hB : Ord B) {k : Int} (h : ∀ m n, (∃ x, sta A m n = some x ∧ x.p = -1 ∧ x.o = k) ↔ (∃ x, sta B m n = some x ∧ x.p = -1 ∧ x.o = k)) : ownedL A k = ownedL B k :=
  NF.ext (norm_nf _) (norm_nf _) fun m n => by
    have h1 := has_owned hA (k := k) (m := m) (n := n)
    have h2 := has_owned hB (k := k) (m := m) (n := n)
    rw [h1, h2]; exact h m n
theorem mayS_zero {x : Sta} {d : Deed} (h : mayS x d = 0) : x.p = -1 ∧ x.h = d.author ∧ (x.o = d.author ∨ d.kind = 3 ∨ (d.kind = 1 ∧ d.who = x.o)) := by
  unfold mayS at h
  by_cases h1 : x.p = -1
  · rw [if_neg (by simpa using h1)] at h
    by_cases h2 : x.o ≠ d.author ∧ x.h ≠ d.author
    · rw [if_pos h2] at h; cases h
    · rw [if_neg h2] at h
      by_cases h3 : x.h = d.author
      · rw [if_neg (by simpa using h3)] at h
        refine ⟨h1, h3, ?_⟩
        by_cases h4 : x.o = d.author
        · exact .inl h4
        · by_cases h5 : d.kind = 3
          · exact .inr (.inl h5)
          · by_cases h6 : d.kind = 1 ∧ d.who = x.o
            · exact .inr (.inr h6)
            · rw [if_pos ⟨h4, h5, by by_cases h7 : d.kind = 1; exact .inr fun e => h6 ⟨h7, e⟩; exact .inl h7⟩] at h; cases h
      · rw [if_pos h3] at h; cases h
  · rw [if_pos h1] at h; cases h
/-- A coin of a deed that is carried out, before and after it. -/
theorem coin_of {F : Int → Int → Option Sta} {d : Deed} (he : errF F d = 0) {m n : Int} (hh : Has d.spans m n) :
    (d.kind = 0 ∧ F m n = none ∧ stepF F d m n = some ⟨d.author, d.author, 0, -1⟩) ∨
    (d.kind ≠ 0 ∧ ∃ x, F m n = some x ∧ x.p = -1 ∧ x.h = d.author ∧ (x.o = d.author ∨ d.kind = 3 ∨ (d.kind = 1 ∧ d.who = x.o)) ∧ stepF F d m n = some (movedS d x)) := by
  have hr := err_right he
  by_cases hk : d.kind = 0
  · refine .inl ⟨hk, ?_, ?_⟩
    · obtain ⟨s, hs, hm, hf⟩ := right_take hr hk
      rw [hs, Has.one] at hh
      cases hx : F m n with
      | none => rfl
      | some x =>
        unfold errF at he
        rw [if_neg (by rw [hr]; simp), if_pos hk, if_pos ⟨n, x, by rw [← hm, hh.1]; exact hx⟩] at he
        cases he
    · unfold stepF; rw [if_pos he, if_pos hh, if_pos hk]
  · obtain ⟨x, hx, hm⟩ := errF_move he hk m n hh
    obtain ⟨h1, h2, h3⟩ := mayS_zero hm
    refine .inr ⟨hk, x, hx, h1, h2, h3, ?_⟩
    unfold stepF; rw [if_pos he, if_pos hh, if_neg hk, hx]; rfl
theorem coin_not {F : Int → Int → Option Sta} {d : Deed} {m n : Int} (hh : ¬ Has d.spans m n) : stepF F d m n = F m n := by
  unfold stepF; rw [if_neg hh]; split <;> rfl
theorem movedS_1 {d : Deed} (h : d.kind = 1) (x : Sta) : movedS d x = ⟨d.who, d.who, 0, x.p⟩ := by unfold movedS; rw [if_pos h]
theorem movedS_2 {d : Deed} (h : d.kind = 2) (x : Sta) : movedS d x = ⟨x.o, d.who, d.til, x.p⟩ := by unfold movedS; rw [if_neg (by omega), if_pos h]
theorem movedS_3 {d : Deed} (h : d.kind = 3) (x : Sta) : movedS d x = ⟨x.o, x.h, x.u, d.mark⟩ := by unfold movedS; rw [if_neg (by omega), if_neg (by omega), if_pos h]
section
variable {L L' : List Lot} {d : Deed}
theorem others_held (h : Ord L) (h' : Ord L') (hs : sta L' = stepF (sta L) d) (he : errF (sta L) d = 0) {k : Int} (h1 : k ≠ d.author) (h2 : k ≠ d.who) : heldL L k = heldL L' k := by
  refine held_ext h h' fun m n => ?_
  have hr := err_right he
  have hmk := (right_parts hr).1
  rw [hs]
  by_cases hh : Has d.spans m n
  · rcases coin_of he hh with ⟨hk, e1, e2⟩ | ⟨hk, x, e1, e2, e3, e4, e5⟩
    · rw [e1, e2]
      constructor
      · rintro ⟨x, hx, _⟩; cases hx
      · rintro ⟨x, hx, _, hx2⟩; cases hx; exact (h1 hx2.symm).elim
    · rw [e1, e5]
      constructor
      · rintro ⟨y, hy, _, hy2⟩; cases hy; exact (h1 (by rw [← hy2, e3])).elim
      · rintro ⟨y, hy, hy1, hy2⟩
        cases hy
        rcases right_kind hr with hk' | hk' | hk' | hk'
        · exact (hk hk').elim
        · rw [movedS_1 hk'] at hy2; exact (h2 hy2.symm).elim
        · rw [movedS_2 hk'] at hy2; exact (h2 hy2.symm).elim
        · rw [movedS_3 hk'] at hy1; simp only at hy1; omega
  · rw [coin_not hh]
theorem others_owned (h : Ord L) (h' : Ord L') (hs : sta L' = stepF (sta L) d) (he : errF (sta L) d = 0) {k : Int} (h1 : k ≠ d.author) (h2 : k ≠ d.who) (h3 : d.kind ≠ 3) : ownedL L k = ownedL L' k := by
  refine owned_ext h h' fun m n => ?_
  have hr := err_right he
  rw [hs]
  by_cases hh : Has d.spans m n
  · rcases coin_of he hh with ⟨hk, e1, e2⟩ | ⟨hk, x, e1, e2, e3, e4, e5⟩
    · rw [e1, e2]
      constructor
      · rintro ⟨x, hx, _⟩; cases hx
      · rintro ⟨x, hx, _, hx2⟩; cases hx; exact (h1 hx2.symm).elim
    · rw [e1, e5]
      constructor
      · rintro ⟨y, hy, _, hy2⟩; cases hy
        rcases e4 with e4 | e4 | e4
        · exact (h1 (by rw [← hy2, e4])).elim
        · exact (h3 e4).elim
        · exact (h2 (by rw [← hy2, e4.2])).elim
      · rintro ⟨y, hy, hy1, hy2⟩
        cases hy
        rcases right_kind hr with hk' | hk' | hk' | hk'
        · exact (hk hk').elim
        · rw [movedS_1 hk'] at hy2; exact (h2 hy2.symm).elim
        · rw [movedS_2 hk'] at hy2
          rcases e4 with e4 | e4 | e4
          · exact (h1 (by rw [← hy2]; exact e4)).elim
          · exact (h3 e4).elim
          · omega
        · exact (h3 hk').elim
  · rw [coin_not hh]
theorem norm_spans (hr : right d = true) : norm d.spans = d.spans := norm_id (normal_nf (right_parts hr).2.2.2.2) (normal_valid (right_parts hr).2.2.2.2)
theorem in_held {A : List Lot} {k : Int} (h : Ord A) (hr : right d = true) (hc : ∀ m n, Has d.spans m n → ∃ x, sta A m n = some x ∧ x.p = -1 ∧ x.h = k) : (minus d.spans (heldL A k)).length = 0 := by
  rw [minus_empty, norm_held, norm_spans hr]
  exact fun m n hh => (has_held h).2 (hc m n hh)
theorem in_owned {A : List Lot} {k : Int} (h : Ord A) (hr : right d = true) (hc : ∀ m n, Has d.spans m n → ∃ x, sta A m n = some x ∧ x.p = -1 ∧ x.o = k) : (minus d.spans (ownedL A k)).length = 0 := by
  rw [minus_empty, norm_owned, norm_spans hr]
  exact fun m n hh => (has_owned h).2 (hc m n hh)
theorem none_held {A : List Lot} {k : Int} (h : Ord A) (hr : right d = true) (hc : ∀ m n, Has d.spans m n → ¬ ∃ x, sta A m n = some x ∧ x.p = -1 ∧ x.h = k) : (common d.spans (heldL A k)).length = 0 := by
  rw [common_empty, norm_held, norm_spans hr]
  exact fun m n hh hx => hc m n hh ((has_held h).1 hx)
theorem took_held (h' : Ord L') (hs : sta L' = stepF (sta L) d) (he : errF (sta L) d = 0) (hk : d.kind = 0) : (minus d.spans (heldL L' d.author)).length = 0 ∧ (minus d.spans (ownedL L' d.author)).length = 0 := by
  have hc : ∀ m n, Has d.spans m n → sta L' m n = some ⟨d.author, d.author, 0, -1⟩ := fun m n hh => by
    rw [hs]
    rcases coin_of he hh with ⟨_, _, e⟩ | ⟨hk', _⟩
    · exact e
    · exact (hk' hk).elim
  exact ⟨in_held h' (err_right he) fun m n hh => ⟨_, hc m n hh, rfl, rfl⟩, in_owned h' (err_right he) fun m n hh => ⟨_, hc m n hh, rfl, rfl⟩⟩
theorem gave_held (h : Ord L) (he : errF (sta L) d = 0) (hk : d.kind ≠ 0) : (minus d.spans (heldL L d.author)).length = 0 := by
  refine in_held h (err_right he) fun m n hh => ?_
  rcases coin_of he hh with ⟨hk', _⟩ | ⟨_, x, e1, e2, e3, _⟩
  · exact (hk hk').elim
  · exact ⟨x, e1, e2, e3⟩
theorem gone_held (h' : Ord L') (hs : sta L' = stepF (sta L) d) (he : errF (sta L) d = 0) (hk : d.kind ≠ 0) : (common d.spans (heldL L' d.author)).length = 0 := by
  have hr := err_right he
  have hmk := (right_parts hr).1
  refine none_held h' hr fun m n hh => ?_
  rw [hs]
  rcases coin_of he hh with ⟨hk', _⟩ | ⟨_, x, e1, e2, e3, e4, e5⟩
  · exact (hk hk').elim
  · rw [e5]
    rintro ⟨y, hy, hy1, hy2⟩
    cases hy
    rcases right_kind hr with hk' | hk' | hk' | hk'
    · exact (hk hk').elim
    · rw [movedS_1 hk'] at hy2; exact (right_who hr (.inl hk')).2 hy2
    · rw [movedS_2 hk'] at hy2; exact (right_who hr (.inr hk')).2 hy2
    · rw [movedS_3 hk'] at hy1; simp only at hy1; omega
theorem got_held (h' : Ord L') (hs : sta L' = stepF (sta L) d) (he : errF (sta L) d = 0) (hk : d.kind ≠ 0) (hk3 : d.kind ≠ 3) : (minus d.spans (heldL L' d.who)).length = 0 := by
  have hr := err_right he
  refine in_held h' hr fun m n hh => ?_
  rw [hs]
  rcases coin_of he hh with ⟨hk', _⟩ | ⟨_, x, e1, e2, e3, e4, e5⟩
  · exact (hk hk').elim
  · refine ⟨_, e5, ?_⟩
    rcases right_kind hr with hk' | hk' | hk' | hk'
    · exact (hk hk').elim
    · rw [movedS_1 hk']; exact ⟨e2, rfl⟩
    · rw [movedS_2 hk']; exact ⟨e2, rfl⟩
    · exact (hk3 hk').elim
theorem got_owned (h' : Ord L') (hs : sta L' = stepF (sta L) d) (he : errF (sta L) d = 0) (hk : d.kind = 1) : (minus d.spans (ownedL L' d.who)).length = 0 := by
  have hr := err_right he
  refine in_owned h' hr fun m n hh => ?_
  rw [hs]
  rcases coin_of he hh with ⟨hk', _⟩ | ⟨_, x, e1, e2, e3, e4, e5⟩
  · omega
  · exact ⟨_, e5, by rw [movedS_1 hk]; exact ⟨e2, rfl⟩⟩
theorem lent_owned (h' : Ord L') (hs : sta L' = stepF (sta L) d) (he : errF (sta L) d = 0) (hk : d.kind = 2) : (minus d.spans (ownedL L' d.author)).length = 0 := by
  have hr := err_right he
  refine in_owned h' hr fun m n hh => ?_
  rw [hs]
  rcases coin_of he hh with ⟨hk', _⟩ | ⟨_, x, e1, e2, e3, e4, e5⟩
  · omega
  · refine ⟨_, e5, ?_⟩
    rw [movedS_2 hk]
    refine ⟨e2, ?_⟩
    rcases e4 with e4 | e4 | e4
    · exact e4
    · omega
    · omega
end
/-- What the deeds before, the deed and its error have to do with each other. -/
theorem lots_at {l : List Deed} (hs : ∀ d ∈ l, d.spans.length ≤ 8) {i : Nat} {d : Deed} (hd : l[i]? = some d) : lotsK (l.take (i + 1)) = ((doB (lotsK (l.take i)).1 d).1, (lotsK (l.take i)).2 ++ [(doB (lotsK (l.take i)).1 d).2]) ∧ (lotsK l).2[i]? = some (doB (lotsK (l.take i)).1 d).2 := by
  have e : lotsK (l.take (i + 1)) = ((doB (lotsK (l.take i)).1 d).1, (lotsK (l.take i)).2 ++ [(doB (lotsK (l.take i)).1 d).2]) := by
    rw [List.take_add_one, hd]; exact lotsK_snoc _ _
  refine ⟨e, ?_⟩
  have key : ∀ (r : List Deed) (p : List Lot × List Int), ∃ q, (r.foldl (fun p d => ((doB p.1 d).1, p.2 ++ [(doB p.1 d).2])) p).2 = p.2 ++ q := by
    intro r
    induction r with
    | nil => intro p; exact ⟨[], by simp⟩
    | cons d r ih =>
      intro p
      obtain ⟨q, hq⟩ := ih ((doB p.1 d).1, p.2 ++ [(doB p.1 d).2])
      exact ⟨[(doB p.1 d).2] ++ q, by rw [List.foldl_cons, hq]; simp⟩
  obtain ⟨q, hq⟩ := key (l.drop (i + 1)) (lotsK (l.take (i + 1)))
  have e2 : (lotsK l).2 = (lotsK (l.take (i + 1))).2 ++ q := by
    rw [← hq]
    conv => lhs; rw [← List.take_append_drop (i + 1) l]
    unfold lotsK
    rw [List.foldl_append]
  have hi := (List.getElem?_eq_some_iff.1 hd).1
  have hl := lotsK_errs (l.take i)
  simp only [List.length_take] at hl
  rw [e2, e]
  simp only
  rw [List.getElem?_append_left (by simp; omega), List.getElem?_append_right (by omega)]
  simp [show i - (lotsK (l.take i)).2.length = 0 by omega]
end Go.Proofs.YtjilbkioieicbaaGreat
