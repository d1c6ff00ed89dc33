/- Lots in order: what cutting, merging and moving keep. -/
import Derived.Test.YtjilbkioieicbaaR11
namespace Go.Proofs.Ytjilbkioieicbaa
open Go.Vc Rt
set_option linter.unusedVariables false
set_option linter.unusedSimpArgs false
/-- One lot lies before the other. -/
def bef (a b : Lot) : Prop := a.s.m < b.s.m ∨ (a.s.m = b.s.m ∧ a.s.t ≤ b.s.f)
/-- A lot is not empty, and within the limits. -/
def lotOk (l : Lot) : Prop := 0 ≤ l.s.m ∧ l.s.m ≤ 1073741824 ∧ 0 ≤ l.s.f ∧ l.s.f < l.s.t ∧ l.s.t ≤ 1048576
structure Ord (L : List Lot) : Prop where
  ok : ∀ l ∈ L, lotOk l
  ord : L.Pairwise bef
def Cov (L : List Lot) (m n : Int) : Prop := ∃ l ∈ L, inLot m n l = true
theorem inLot_iff {m n : Int} {l : Lot} : inLot m n l = true ↔ l.s.m = m ∧ l.s.f ≤ n ∧ n < l.s.t := by unfold inLot; simp
theorem cutsIn_iff {m n : Int} {l : Lot} : cutsIn m n l = true ↔ l.s.m = m ∧ l.s.f < n ∧ n < l.s.t := by unfold cutsIn; simp
theorem Cov.cons {l : Lot} {L : List Lot} {m n : Int} : Cov (l :: L) m n ↔ inLot m n l = true ∨ Cov L m n := by
  unfold Cov
  constructor
  · rintro ⟨x, hx, h⟩
    rcases List.mem_cons.1 hx with rfl | hx
    · exact .inl h
    · exact .inr ⟨x, hx, h⟩
  · rintro (h | ⟨x, hx, h⟩)
    · exact ⟨l, List.mem_cons_self .., h⟩
    · exact ⟨x, List.mem_cons_of_mem _ hx, h⟩
theorem Cov.append {a b : List Lot} {m n : Int} : Cov (a ++ b) m n ↔ Cov a m n ∨ Cov b m n := by
  induction a with
  | nil => simp [Cov]
  | cons x a ih => rw [List.cons_append, Cov.cons, Cov.cons, ih, or_assoc]
theorem split_mem {m n : Int} : ∀ {L : List Lot} {x : Lot}, x ∈ split m n L → x ∈ L ∨ ∃ l ∈ L, cutsIn m n l = true ∧ (x = lotTo l n ∨ x = lotFrom l n)
  | [], x, h => by cases h
  | l :: L, x, h => by
    simp only [split] at h
    split at h
    · rename_i hc
      rcases List.mem_cons.1 h with rfl | h
      · exact .inr ⟨l, List.mem_cons_self .., hc, .inl rfl⟩
      · rcases List.mem_cons.1 h with rfl | h
        · exact .inr ⟨l, List.mem_cons_self .., hc, .inr rfl⟩
        · exact .inl (List.mem_cons_of_mem _ h)
    · rcases List.mem_cons.1 h with rfl | h
      · exact .inl (List.mem_cons_self ..)
      · rcases split_mem h with h | ⟨y, hy, hc⟩
        · exact .inl (List.mem_cons_of_mem _ h)
        · exact .inr ⟨y, List.mem_cons_of_mem _ hy, hc⟩
theorem split_ord {m n : Int} : ∀ {L : List Lot}, Ord L → Ord (split m n L)
  | [], h => h
  | l :: L, h => by
    obtain ⟨h1, h2⟩ := List.pairwise_cons.1 h.ord
    have hl := h.ok l (List.mem_cons_self ..)
    have ih := split_ord (m := m) (n := n) (L := L) ⟨fun x hx => h.ok x (List.mem_cons_of_mem _ hx), h2⟩
    simp only [split]
    split
    · rename_i hc
      rw [cutsIn_iff] at hc
      refine ⟨fun x hx => ?_, List.pairwise_cons.2 ⟨fun x hx => ?_, List.pairwise_cons.2 ⟨fun x hx => ?_, h2⟩⟩⟩
      · rcases List.mem_cons.1 hx with rfl | hx
        · unfold lotOk lotTo at *; simp only; omega
        · rcases List.mem_cons.1 hx with rfl | hx
          · unfold lotOk lotFrom at *; simp only; omega
          · exact h.ok x (List.mem_cons_of_mem _ hx)
      · rcases List.mem_cons.1 hx with rfl | hx
        · exact .inr ⟨rfl, Int.le_refl _⟩
        · have := h1 x hx; unfold bef lotTo at *; simp only at *; omega
      · have := h1 x hx; unfold bef lotFrom at *; simp only at *; omega
    · refine ⟨fun x hx => ?_, List.pairwise_cons.2 ⟨fun x hx => ?_, ih.ord⟩⟩
      · rcases List.mem_cons.1 hx with rfl | hx
        · exact hl
        · exact ih.ok x hx
      · rcases split_mem hx with hx | ⟨y, hy, hc, rfl | rfl⟩
        · exact h1 x hx
        · have := h1 y hy; unfold bef lotTo at *; simp only at *; omega
        · have := h1 y hy; rw [cutsIn_iff] at hc; unfold bef lotFrom at *; simp only at *; omega
theorem split_cov {a b m n : Int} : ∀ {L : List Lot}, Cov (split a b L) m n ↔ Cov L m n
  | [] => Iff.rfl
  | l :: L => by
    simp only [split]
    split
    · rename_i hc
      rw [cutsIn_iff] at hc
      rw [Cov.cons, Cov.cons, Cov.cons, ← or_assoc]
      have : (inLot m n (lotTo l b) = true ∨ inLot m n (lotFrom l b) = true) ↔ inLot m n l = true := by
        rw [inLot_iff, inLot_iff, inLot_iff]; unfold lotTo lotFrom; simp only; omega
      rw [this]
    · rw [Cov.cons, Cov.cons, split_cov]
theorem cutAt_ord {s : Span} {L : List Lot} (h : Ord L) : Ord (cutAt s L) := split_ord (split_ord h)
theorem cutAt_cov {s : Span} {L : List Lot} {m n : Int} : Cov (cutAt s L) m n ↔ Cov L m n := split_cov.trans split_cov
theorem idx_found {L : List Lot} {m n : Int} (h : Cov L m n) : ∃ i : Nat, idxOf (inLot m n) L = i ∧ ∃ l, L[i]? = some l ∧ inLot m n l = true := by
  unfold idxOf
  cases hf : L.findIdx? (inLot m n) with
  | none =>
    rw [List.findIdx?_eq_none_iff] at hf
    obtain ⟨l, hl, h⟩ := h
    rw [hf l hl] at h; cases h
  | some i =>
    rw [List.findIdx?_eq_some_iff_getElem] at hf
    exact ⟨i, rfl, L[i]'hf.1, List.getElem?_eq_getElem hf.1, hf.2.1⟩
theorem idx_cov {L : List Lot} {m n : Int} (h : 0 ≤ idxOf (inLot m n) L) : Cov L m n := by
  unfold idxOf at h
  cases hf : L.findIdx? (inLot m n) with
  | none => rw [hf] at h; simp at h
  | some i =>
    rw [List.findIdx?_eq_some_iff_getElem] at hf
    exact ⟨_, List.getElem_mem hf.1, hf.2.1⟩
theorem ord_get {L : List Lot} (h : Ord L) {i j : Nat} {x y : Lot} (hi : L[i]? = some x) (hj : L[j]? = some y) (hij : i < j) : bef x y := by
  obtain ⟨h1, e1⟩ := List.getElem?_eq_some_iff.1 hi
  obtain ⟨h2, e2⟩ := List.getElem?_eq_some_iff.1 hj
  have := (List.pairwise_iff_getElem.1 h.ord) i j h1 h2 hij
  rw [e1, e2] at this; exact this
theorem cutB_of {L : List Lot} {s : Span} (h : Ord L) (h1 : Cov L s.m s.f) (h2 : Cov L s.m (s.t - 1)) (hs : s.f < s.t) : cutB s L = true := by
  obtain ⟨i, hi, x, hx, hx'⟩ := idx_found (cutAt_cov (s := s).2 h1)
  obtain ⟨k, hk, y, hy, hy'⟩ := idx_found (cutAt_cov (s := s).2 h2)
  unfold cutB cutI cutK
  rw [hi, hk]
  have : i ≤ k := by
    rcases Nat.lt_or_ge k i with hlt | hge
    · have := ord_get (cutAt_ord h) hy hx hlt
      rw [inLot_iff] at hx' hy'
      unfold bef at this; omega
    · exact hge
  simp; omega
theorem cutB_cov {L : List Lot} {s : Span} (h : cutB s L = true) : Cov L s.m s.f ∧ Cov L s.m (s.t - 1) := by
  unfold cutB at h
  simp at h
  exact ⟨cutAt_cov.1 (idx_cov h.1), cutAt_cov.1 (idx_cov (show 0 ≤ cutK s L by omega))⟩
/-! ### The two rounds -/
theorem mvRun_spec {d : Deed} : ∀ {l : List Span} {L : List Lot} {e : Int}, Ord L → Ord (mvRun d l L e).1 ∧ (∀ m n, Cov (mvRun d l L e).1 m n ↔ Cov L m n) ∧ (mvRun d l L e).1.length ≤ L.length + 2 * l.length ∧ ((mvRun d l L e).2.2 = true → ∀ s ∈ l, Cov L s.m s.f ∧ Cov L s.m (s.t - 1))
  | [], L, e, h => ⟨h, fun _ _ => Iff.rfl, by simp [mvRun], fun _ s hs => by cases hs⟩
  | s :: l, L, e, h => by
    have hc := cutAt_ord (s := s) h
    have hl := cut_len s L
    simp only [mvRun]
    split
    · rename_i hb
      obtain ⟨h1, h2, h3, h4⟩ := mvRun_spec (d := d) (l := l) (e := errsK (cutAt s L) d (cutI s L).toNat (cutK s L + 1).toNat e) hc
      refine ⟨h1, fun m n => (h2 m n).trans cutAt_cov, by simp only [List.length_cons]; omega, fun hok x hx => ?_⟩
      rcases List.mem_cons.1 hx with rfl | hx
      · exact cutB_cov hb
      · have := h4 hok x hx
        rw [cutAt_cov, cutAt_cov] at this
        exact this
    · exact ⟨hc, fun m n => cutAt_cov, by simp only [List.length_cons]; omega, fun hok => by cases hok⟩
def keepS (f : Lot → Lot) : Prop := ∀ l, (f l).s = l.s
theorem movedL_s (d : Deed) : keepS (movedL d) := fun l => by unfold movedL; split <;> (try split) <;> (try split) <;> rfl
theorem map_bef {f : Lot → Lot} (hf : keepS f) {a b : Lot} : bef (f a) b ↔ bef a b := by unfold bef; rw [hf a]
theorem map_bef' {f : Lot → Lot} (hf : keepS f) {a b : Lot} : bef a (f b) ↔ bef a b := by unfold bef; rw [hf b]
/-- Lots with the same spans. -/
theorem ord_congr {A B : List Lot} (h : A.map (·.s) = B.map (·.s)) (hA : Ord A) : Ord B := by
  have hl : A.length = B.length := by have := congrArg List.length h; simpa using this
  have hg : ∀ i (h1 : i < A.length) (h2 : i < B.length), A[i].s = B[i].s := fun i h1 h2 => by
    have : (A.map (·.s))[i]'(by simpa using h1) = (B.map (·.s))[i]'(by simpa using h2) := by simp only [h]
    simpa using this
  refine ⟨fun l hl' => ?_, List.pairwise_iff_getElem.2 fun i j hi hj hij => ?_⟩
  · obtain ⟨i, hi, e⟩ := List.getElem_of_mem hl'
    have := hA.ok A[i] (List.getElem_mem (by omega))
    unfold lotOk at *
    rw [hg i (by omega) hi, e] at this
    exact this
  · have := (List.pairwise_iff_getElem.1 hA.ord) i j (by omega) (by omega) hij
    unfold bef at *
    rw [hg i (by omega) hi, hg j (by omega) hj] at this
    exact this
theorem cov_congr {A B : List Lot} (h : A.map (·.s) = B.map (·.s)) {m n : Int} : Cov A m n ↔ Cov B m n := by
  have key : ∀ {A : List Lot}, Cov A m n ↔ ∃ s ∈ A.map (·.s), s.m = m ∧ s.f ≤ n ∧ n < s.t := by
    intro A
    unfold Cov
    constructor
    · rintro ⟨l, hl, h⟩
      exact ⟨l.s, List.mem_map.2 ⟨l, hl, rfl⟩, inLot_iff.1 h⟩
    · rintro ⟨s, hs, h⟩
      obtain ⟨l, hl, rfl⟩ := List.mem_map.1 hs
      exact ⟨l, hl, inLot_iff.2 h⟩
  rw [key, key, h]
theorem updR_s {L : List Lot} {i k : Nat} {f : Lot → Lot} (hf : keepS f) (h : i ≤ k) : (updR L i k f).map (·.s) = L.map (·.s) := by
  unfold updR
  rw [List.map_append, List.map_append, List.map_map]
  have : ((·.s) ∘ f : Lot → Span) = (·.s) := by funext l; exact hf l
  rw [this, ← List.map_append, ← List.map_append]
  congr 1
  have e : L.take i = (L.take k).take i := by rw [List.take_take, Nat.min_eq_left h]
  rw [e, List.take_append_drop, List.take_append_drop]
theorem mv2_spec {d : Deed} : ∀ {l : List Span} {L : List Lot}, Ord L → (∀ s ∈ l, Cov L s.m s.f ∧ Cov L s.m (s.t - 1) ∧ s.f < s.t) → Ord (mv2 d l L) ∧ (∀ m n, Cov (mv2 d l L) m n ↔ Cov L m n) ∧ (mv2 d l L).length ≤ L.length + 2 * l.length
  | [], L, h, _ => ⟨h, fun _ _ => Iff.rfl, by simp [mv2]⟩
  | s :: l, L, h, hc => by
    obtain ⟨c1, c2, c3⟩ := hc s (List.mem_cons_self ..)
    have hb := cutB_of h c1 c2 c3
    have hbI := idx_bound (inLot s.m s.f) (cutAt s L)
    have hbK := idx_bound (inLot s.m (s.t - 1)) (cutAt s L)
    change -1 ≤ cutI s L ∧ cutI s L < _ at hbI
    change -1 ≤ cutK s L ∧ cutK s L < _ at hbK
    have hIK : 0 ≤ cutI s L ∧ cutI s L ≤ cutK s L := by unfold cutB at hb; simpa using hb
    have hle : (cutI s L).toNat ≤ (cutK s L + 1).toNat := by omega
    have hs := updR_s (L := cutAt s L) (i := (cutI s L).toNat) (k := (cutK s L + 1).toNat) (movedL_s d) hle
    have hul := updR_len (L := cutAt s L) (f := movedL d) hle (by omega)
    have hcl := cut_len s L
    have ho := ord_congr hs.symm (cutAt_ord (s := s) h)
    have hcv : ∀ m n, Cov (updR (cutAt s L) (cutI s L).toNat (cutK s L + 1).toNat (movedL d)) m n ↔ Cov L m n := fun m n => (cov_congr hs).trans cutAt_cov
    obtain ⟨k1, k2, k3⟩ := mv2_spec (d := d) (l := l) ho (fun x hx => by rw [hcv, hcv]; exact hc x (List.mem_cons_of_mem _ hx))
    simp only [mv2]
    exact ⟨k1, fun m n => (k2 m n).trans (hcv m n), by simp only [List.length_cons]; omega⟩
/-! ### Merging -/
theorem joinL_split (out : List Lot) (l : Lot) (n : Int) : joinL (joinL out (lotTo l n)) (lotFrom l n) = joinL out l := by
  have al : ∀ r, alike r (lotTo l n) = alike r l := fun r => rfl
  have al2 : ∀ r : Lot, alike r l = true → alike (lotTo r n) (lotFrom l n) = true := fun r h => by
    unfold alike at *; simp at h; simp [lotTo, lotFrom, h]
  rcases List.eq_nil_or_concat out with rfl | ⟨o, r, rfl⟩
  · have e1 : joinL [] (lotTo l n) = [] ++ [lotTo l n] := rfl
    have e2 : joinL [] l = [l] := rfl
    rw [e1, joinL_snoc, if_pos (by unfold alike; simp [lotTo, lotFrom]), e2]
    rfl
  · simp only [List.concat_eq_append]
    rw [joinL_snoc, joinL_snoc, al]
    by_cases h : alike r l = true
    · rw [if_pos h, if_pos h]
      show joinL (o ++ [lotTo r n]) (lotFrom l n) = _
      rw [joinL_snoc, if_pos (al2 r h)]
      rfl
    · rw [if_neg h, if_neg h, joinL_snoc, if_pos (by unfold alike; simp [lotTo, lotFrom])]
      rfl
theorem fold_split {m n : Int} : ∀ {L out : List Lot}, (split m n L).foldl joinL out = L.foldl joinL out
  | [], out => rfl
  | l :: L, out => by
    simp only [split]
    split
    · rw [List.foldl_cons, List.foldl_cons, joinL_split, List.foldl_cons]
    · rw [List.foldl_cons, List.foldl_cons, fold_split]
theorem merge_split {m n : Int} {L : List Lot} : mergeL (split m n L) = mergeL L := fold_split
theorem merge_cut {s : Span} {L : List Lot} : mergeL (cutAt s L) = mergeL L := by unfold cutAt; rw [merge_split, merge_split]
theorem merge_run {d : Deed} : ∀ {l : List Span} {L : List Lot} {e : Int}, mergeL (mvRun d l L e).1 = mergeL L
  | [], L, e => rfl
  | s :: l, L, e => by
    simp only [mvRun]
    split
    · rw [merge_run, merge_cut]
    · exact merge_cut
/-- No neighbors are alike. -/
def Mgd (L : List Lot) : Prop := ∀ i a b, L[i]? = some a → L[i + 1]? = some b → alike a b = false
theorem joinL_mgd {out : List Lot} {l : Lot} (h : Mgd out) : Mgd (joinL out l) := by
  rcases List.eq_nil_or_concat out with rfl | ⟨o, r, rfl⟩
  · intro i a b _ hb
    have e : joinL [] l = [l] := rfl
    rw [e] at hb; simp at hb
  · simp only [List.concat_eq_append] at *
    rw [joinL_snoc]
    split
    · intro i a b ha hb
      rcases Nat.lt_or_ge (i + 1) o.length with hlt | hge
      · rw [List.getElem?_append_left (by omega)] at ha hb
        exact h i a b (by rw [List.getElem?_append_left (by omega)]; exact ha) (by rw [List.getElem?_append_left (by omega)]; exact hb)
      · have hi : i + 1 = o.length := by
          rcases Nat.lt_or_ge (i + 1) (o.length + 1) with h' | h'
          · omega
          · rw [List.getElem?_eq_none (by simp; omega)] at hb; cases hb
        rw [List.getElem?_append_left (by omega)] at ha
        rw [List.getElem?_append_right (by omega), hi, Nat.sub_self] at hb
        simp at hb; subst hb
        exact h i a r (by rw [List.getElem?_append_left (by omega)]; exact ha) (by rw [List.getElem?_append_right (by omega), hi, Nat.sub_self]; rfl)
    · rename_i hc
      intro i a b ha hb
      rcases Nat.lt_or_ge (i + 1) (o ++ [r]).length with hlt | hge
      · rw [List.getElem?_append_left (by omega)] at ha hb
        exact h i a b ha hb
      · have hi : i + 1 = (o ++ [r]).length := by
          rcases Nat.lt_or_ge (i + 1) ((o ++ [r]).length + 1) with h' | h'
          · omega
          · rw [List.getElem?_eq_none (by simp at *; omega)] at hb; cases hb
        rw [List.getElem?_append_left (by omega)] at ha
        rw [List.getElem?_append_right (by omega), hi, Nat.sub_self] at hb
        simp at hb; subst hb
        have : i = o.length := by simp at hi; omega
        subst this
        simp at ha; subst ha
        simpa using hc
theorem fold_mgd : ∀ {L out : List Lot}, Mgd out → Mgd (L.foldl joinL out)
  | [], out, h => h
  | l :: L, out, h => fold_mgd (L := L) (joinL_mgd h)
theorem merge_mgd (L : List Lot) : Mgd (mergeL L) := fold_mgd fun i a b h => by simp at h
theorem fold_id : ∀ {L out : List Lot}, Mgd (out ++ L) → L.foldl joinL out = out ++ L
  | [], out, _ => by simp
  | l :: L, out, h => by
    have : joinL out l = out ++ [l] := by
      obtain ⟨r, hr⟩ := lastL out
      refine joinL_app hr fun h0 => ?_
      exact h (out.length - 1) r l (by rw [List.getElem?_append_left (by omega)]; exact hr h0) (by rw [show out.length - 1 + 1 = out.length by omega, List.getElem?_append_right (Nat.le_refl _), Nat.sub_self]; rfl)
    rw [List.foldl_cons, this, fold_id (by simpa using h)]
    simp
theorem merge_id {L : List Lot} (h : Mgd L) : mergeL L = L := by
  have := fold_id (L := L) (out := []) (by simpa using h)
  simpa [mergeL] using this
theorem merge_len (L : List Lot) : (mergeL L).length ≤ L.length := by have := joinsL_len L []; simpa [mergeL] using this
theorem joinL_ord {out : List Lot} {l : Lot} (h : Ord (out ++ [l])) : Ord (joinL out l) ∧ (∀ x ∈ joinL out l, ∃ y ∈ out ++ [l], ∀ z, bef y z → (∀ u ∈ out ++ [l], bef u z) → bef x z) ∧ (∀ m n, Cov (joinL out l) m n ↔ Cov (out ++ [l]) m n) := by
  rcases List.eq_nil_or_concat out with rfl | ⟨o, r, rfl⟩
  · exact ⟨h, fun x hx => ⟨x, hx, fun z hz _ => hz⟩, fun _ _ => Iff.rfl⟩
  · simp only [List.concat_eq_append] at *
    rw [joinL_snoc]
    split
    · rename_i hc
      unfold alike at hc
      simp at hc
      obtain ⟨p1, p2, p3⟩ := List.pairwise_append.1 h.ord
      obtain ⟨q1, q2, q3⟩ := List.pairwise_append.1 p1
      have hr := h.ok r (by simp)
      have hl := h.ok l (by simp)
      refine ⟨⟨fun x hx => ?_, List.pairwise_append.2 ⟨q1, by simp, fun x hx y hy => ?_⟩⟩, fun x hx => ?_, fun m n => ?_⟩
      · rcases List.mem_append.1 hx with hx | hx
        · exact h.ok x (by simp [hx])
        · simp at hx; subst hx
          unfold lotOk lotTo at *; simp only; omega
      · simp at hy; subst hy
        have := q3 x hx r (by simp)
        unfold bef lotTo at *; simp only; exact this
      · rcases List.mem_append.1 hx with hx | hx
        · exact ⟨x, by simp [hx], fun z hz _ => hz⟩
        · simp at hx; subst hx
          refine ⟨l, by simp, fun z hz _ => ?_⟩
          unfold bef lotTo at *; simp only; omega
      · rw [Cov.append, Cov.append, Cov.append, Cov.cons, Cov.cons, Cov.cons, inLot_iff, inLot_iff, inLot_iff]
        unfold lotOk at hr hl
        simp only [lotTo]
        have hn : ¬ Cov [] m n := fun ⟨x, hx, _⟩ => by cases hx
        constructor
        · rintro (h1 | h1 | h1)
          · exact .inl (.inl h1)
          · by_cases h2 : n < r.s.t
            · exact .inl (.inr (.inl ⟨h1.1, h1.2.1, h2⟩))
            · exact .inr (.inl ⟨by omega, by omega, by omega⟩)
          · exact (hn h1).elim
        · rintro ((h1 | h1 | h1) | h1 | h1)
          · exact .inl h1
          · exact .inr (.inl ⟨h1.1, h1.2.1, by omega⟩)
          · exact (hn h1).elim
          · exact .inr (.inl ⟨by omega, by omega, by omega⟩)
          · exact (hn h1).elim
    · exact ⟨h, fun x hx => ⟨x, hx, fun z hz _ => hz⟩, fun _ _ => Iff.rfl⟩
theorem fold_ord : ∀ {L out : List Lot}, Ord (out ++ L) → Ord (L.foldl joinL out) ∧ ∀ m n, Cov (L.foldl joinL out) m n ↔ Cov (out ++ L) m n
  | [], out, h => by simpa using h
  | l :: L, out, h => by
    have e : out ++ l :: L = (out ++ [l]) ++ L := by simp
    rw [e] at h
    obtain ⟨p1, p2, p3⟩ := List.pairwise_append.1 h.ord
    obtain ⟨j1, j2, j3⟩ := joinL_ord (out := out) (l := l) ⟨fun x hx => h.ok x (List.mem_append.2 (.inl hx)), p1⟩
    have ho : Ord (joinL out l ++ L) := by
      refine ⟨fun x hx => ?_, List.pairwise_append.2 ⟨j1.ord, p2, fun x hx z hz => ?_⟩⟩
      · rcases List.mem_append.1 hx with hx | hx
        · exact j1.ok x hx
        · exact h.ok x (List.mem_append.2 (.inr hx))
      · obtain ⟨y, hy, hh⟩ := j2 x hx
        exact hh z (p3 y hy z hz) (fun u hu => p3 u hu z hz)
    obtain ⟨k1, k2⟩ := fold_ord ho
    refine ⟨k1, fun m n => ?_⟩
    rw [List.foldl_cons, k2, Cov.append, j3, e, Cov.append (a := out ++ [l])]
theorem merge_ord {L : List Lot} (h : Ord L) : Ord (mergeL L) := (fold_ord (out := []) (by simpa using h)).1
/-! ### One deed -/
theorem normal_valid {l : List Span} (h : normal l = true) : ∀ s ∈ l, valid s = true := by
  intro s hs
  obtain ⟨i, hi, e⟩ := List.getElem_of_mem hs
  unfold normal at h
  rw [List.all_eq_true] at h
  have := h i (List.mem_range.2 hi)
  unfold okAt at this
  rw [List.getElem?_eq_getElem hi, e] at this
  simp at this
  exact this.1
theorem right_parts {d : Deed} (h : right d = true) : 0 ≤ d.mark ∧ d.mark ≤ 1073741824 ∧ isKey d.author = true ∧ 0 < d.spans.length ∧ normal d.spans = true := by
  unfold right at h
  split at h
  · cases h
  · rename_i hno
    refine ⟨?_, ?_, ?_, ?_, ?_⟩
    · exact Int.not_lt.1 fun h' => hno (.inl h')
    · exact Int.not_lt.1 fun h' => hno (.inr (.inl h'))
    · cases hk : isKey d.author
      · exact (hno (.inr (.inr (.inl hk)))).elim
      · rfl
    · exact Nat.pos_of_ne_zero fun h' => hno (.inr (.inr (.inr (.inl h'))))
    · cases hk : normal d.spans
      · exact (hno (.inr (.inr (.inr (.inr hk))))).elim
      · rfl
theorem right_spans {d : Deed} (h : right d = true) : ∀ s ∈ d.spans, 0 ≤ s.m ∧ s.m ≤ 1073741824 ∧ 0 ≤ s.f ∧ s.f < s.t ∧ s.t ≤ 1048576 := by
  intro s hs
  have := normal_valid (right_parts h).2.2.2.2 s hs
  unfold valid isMark at this
  simp at this
  omega
theorem right_take {d : Deed} (h : right d = true) (hk : d.kind = 0) : ∃ s, d.spans = [s] ∧ s.m = d.mark ∧ s.f = 0 := by
  unfold right at h
  split at h
  · cases h
  · split at h
    · rename_i s hs
      simp at h
      exact ⟨s, hs, h.1, h.2⟩
    · cases h
theorem ord_sorted {L : List Lot} (h : Ord L) : L.Pairwise (fun a b => a.s.m ≤ b.s.m) := h.ord.imp fun {a b} h => by unfold bef at h; omega
theorem doOk_of {L : List Lot} {d : Deed} (h : Ord L) (hl : L.length ≤ 100000) (hs : d.spans.length ≤ 8) : DoOk L d where
  len := by omega
  spans := by omega
  sorted := fun _ => ord_sorted h
  range := fun hr l hl' => by
    have h1 := h.ok l hl'
    have h2 := right_parts hr
    unfold lotOk at h1
    exact ⟨by omega, by omega⟩
  valid := fun hr s hs' => by have := right_spans hr s hs'; omega
  again := fun hr hk h1 h2 k s hks => by
    obtain ⟨m1, m2, m3, m4⟩ := mvRun_spec (d := d) (l := d.spans) (e := 0) h
    have hc := m4 h1
    have key : ∀ x ∈ d.spans, Cov (mvRun d d.spans L 0).1 x.m x.f ∧ Cov (mvRun d d.spans L 0).1 x.m (x.t - 1) ∧ x.f < x.t := fun x hx => by
      have := hc x hx
      rw [m2, m2]
      exact ⟨this.1, this.2, by have := right_spans hr x hx; omega⟩
    obtain ⟨n1, n2, n3⟩ := mv2_spec (d := d) (l := d.spans.take k) m1 (fun x hx => key x (List.mem_of_mem_take hx))
    have hks' := key s (List.mem_of_getElem? hks)
    exact cutB_of n1 ((n2 _ _).2 hks'.1) ((n2 _ _).2 hks'.2.1) hks'.2.2
  out := fun hr hk => by
    obtain ⟨m1, m2, m3, m4⟩ := mvRun_spec (d := d) (l := d.spans) (e := 0) h
    unfold moveB
    simp only
    split
    · simp only; omega
    · split
      · simp only; omega
      · rename_i h1 h2
        have h1 : (mvRun d d.spans L 0).2.2 = true := by simpa using h1
        have hc := m4 h1
        obtain ⟨n1, n2, n3⟩ := mv2_spec (d := d) (l := d.spans) m1 (fun x hx => by
          have := hc x hx
          rw [m2, m2]
          exact ⟨this.1, this.2, by have := right_spans hr x hx; omega⟩)
        simp only; omega
theorem takeWhile_lt {m : Int} : ∀ {L : List Lot}, L.Pairwise (fun a b => a.s.m ≤ b.s.m) → (∀ l ∈ L.take (before L m), l.s.m < m) ∧ (∀ l ∈ L.drop (before L m), ¬ l.s.m < m)
  | [], _ => by simp [before]
  | x :: L, h => by
    obtain ⟨h1, h2⟩ := List.pairwise_cons.1 h
    obtain ⟨k1, k2⟩ := takeWhile_lt (m := m) h2
    by_cases hx : x.s.m < m
    · have e : before (x :: L) m = before L m + 1 := by unfold before; simp [hx]
      rw [e, List.take_succ_cons, List.drop_succ_cons]
      exact ⟨fun l hl => (List.mem_cons.1 hl).elim (fun e => e ▸ hx) (k1 l), k2⟩
    · have e : before (x :: L) m = 0 := by unfold before; simp [hx]
      rw [e]
      refine ⟨fun l hl => by simp at hl, fun l hl => ?_⟩
      rcases List.mem_cons.1 hl with rfl | hl
      · exact hx
      · have := h1 l hl; omega
theorem there_false {L : List Lot} {m : Int} (hs : L.Pairwise (fun a b => a.s.m ≤ b.s.m)) (h : there L m = false) : ∀ l ∈ L.drop (before L m), m < l.s.m := by
  intro l hl
  have hge := (takeWhile_lt (m := m) hs).2
  cases hd : L.drop (before L m) with
  | nil => rw [hd] at hl; cases hl
  | cons x r =>
    have hx : L[before L m]? = some x := by
      have : (L.drop (before L m))[0]? = some x := by rw [hd]; rfl
      simpa using this
    unfold there at h
    rw [hx] at h
    have hne : x.s.m ≠ m := by simpa using h
    have hxge := hge x (by rw [hd]; simp)
    have hpw : (x :: r).Pairwise (fun a b => a.s.m ≤ b.s.m) := by rw [← hd]; exact hs.sublist (List.drop_sublist _ _)
    rw [hd] at hl
    rcases List.mem_cons.1 hl with rfl | hl
    · omega
    · have := (List.pairwise_cons.1 hpw).1 l hl; omega
theorem takeB_ord {L : List Lot} {d : Deed} (h : Ord L) (hr : right d = true) (hk : d.kind = 0) : Ord (takeB L d).1 := by
  obtain ⟨s, hs, hm, hf⟩ := right_take hr hk
  have hsp := right_spans hr s (by rw [hs]; simp)
  unfold takeB
  split
  · exact h
  · rename_i ht
    have ht : there L d.mark = false := by simpa using ht
    have hlt := (takeWhile_lt (m := d.mark) (ord_sorted h)).1
    have hgt := there_false (ord_sorted h) ht
    rw [hs]
    simp only [List.headD_cons, insL]
    have e := List.take_append_drop (before L d.mark) L
    have hp := h.ord
    rw [← e] at hp
    obtain ⟨p1, p2, p3⟩ := List.pairwise_append.1 hp
    refine ⟨fun l hl => ?_, ?_⟩
    · rcases List.mem_append.1 hl with hl | hl
      · rcases List.mem_append.1 hl with hl | hl
        · exact h.ok l (List.mem_of_mem_take hl)
        · simp at hl; subst hl; unfold lotOk; simp only; omega
      · exact h.ok l (List.mem_of_mem_drop hl)
    · rw [List.append_assoc]
      refine List.pairwise_append.2 ⟨p1, List.pairwise_cons.2 ⟨fun l hl => ?_, p2⟩, fun a ha b hb => ?_⟩
      · have := hgt l hl; unfold bef; simp only; omega
      · rcases List.mem_cons.1 hb with rfl | hb
        · have := hlt a ha; unfold bef; simp only; omega
        · exact p3 a ha b hb
theorem moveB_ord {L : List Lot} {d : Deed} (h : Ord L) (hr : right d = true) : Ord (moveB L d).1 ∧ (moveB L d).1.length ≤ L.length + 4 * d.spans.length := by
  obtain ⟨m1, m2, m3, m4⟩ := mvRun_spec (d := d) (l := d.spans) (e := 0) h
  unfold moveB
  simp only
  split
  · exact ⟨m1, by simp only; omega⟩
  · split
    · exact ⟨m1, by simp only; omega⟩
    · rename_i h1 h2
      have h1 : (mvRun d d.spans L 0).2.2 = true := by simpa using h1
      have hc := m4 h1
      obtain ⟨n1, n2, n3⟩ := mv2_spec (d := d) (l := d.spans) m1 (fun x hx => by
        have := hc x hx
        rw [m2, m2]
        exact ⟨this.1, this.2, by have := right_spans hr x hx; omega⟩)
      exact ⟨n1, by simp only; omega⟩
theorem doB_keeps {L : List Lot} {d : Deed} (h : Ord L) (hm : Mgd L) (hs : d.spans.length ≤ 8) : Ord (doB L d).1 ∧ Mgd (doB L d).1 ∧ (doB L d).1.length ≤ L.length + 32 := by
  unfold doB
  split
  · rename_i hr
    split
    · rename_i hk
      exact ⟨merge_ord (takeB_ord h hr hk), merge_mgd _, by have := merge_len (takeB L d).1; have := takeB_len L d; simp only; omega⟩
    · exact ⟨merge_ord (moveB_ord h hr).1, merge_mgd _, by have := merge_len (moveB L d).1; have := (moveB_ord h hr).2; simp only; omega⟩
  · exact ⟨h, hm, by simp⟩
/-- A deed that is refused changes nothing. -/
theorem doB_refused {L : List Lot} {d : Deed} (hm : Mgd L) (he : (doB L d).2 ≠ 0) : (doB L d).1 = L := by
  unfold doB at *
  split at he
  · split at he
    · rename_i hr hk
      rw [if_pos hr, if_pos hk]
      simp only at he ⊢
      unfold takeB at *
      split at he
      · rename_i ht; rw [if_pos ht]; exact merge_id hm
      · exact (he rfl).elim
    · rename_i hr hk
      rw [if_pos hr, if_neg hk]
      simp only at he ⊢
      unfold moveB at *
      simp only at *
      split at he
      · rename_i h1; rw [if_pos h1]; simp only; rw [merge_run]; exact merge_id hm
      · rename_i h1
        split at he
        · rename_i h2; rw [if_neg h1, if_pos h2]; simp only; rw [merge_run]; exact merge_id hm
        · exact (he rfl).elim
  · rename_i hr; rw [if_neg hr]
theorem lotsK_keeps : ∀ (n : Nat) (l : List Deed), l.length = n → (∀ d ∈ l, d.spans.length ≤ 8) → Ord (lotsK l).1 ∧ Mgd (lotsK l).1 ∧ (lotsK l).1.length ≤ 32 * l.length
  | 0, l, hn, _ => by
    have := List.eq_nil_of_length_eq_zero hn
    subst this
    exact ⟨⟨fun l hl => (by cases hl), .nil⟩, fun i a b h => (by simp [lotsK] at h), by simp [lotsK]⟩
  | n + 1, l, hn, hs => by
    rcases List.eq_nil_or_concat l with rfl | ⟨l', d, rfl⟩
    · simp at hn
    · simp only [List.concat_eq_append] at *
      obtain ⟨h1, h2, h3⟩ := lotsK_keeps n l' (by simpa using hn) (fun x hx => hs x (by simp [hx]))
      have := doB_keeps h1 h2 (hs d (by simp))
      rw [lotsK_snoc]
      exact ⟨this.1, this.2.1, by have := this.2.2; simp; omega⟩
theorem lots_ok {l : List Deed} (hs : ∀ d ∈ l, d.spans.length ≤ 8) (hl : l.length ≤ 1000) : ∀ k d, l[k]? = some d → DoOk (lotsK (l.take k)).1 d := fun k d hd => by
  obtain ⟨h1, h2, h3⟩ := lotsK_keeps _ (l.take k) rfl (fun x hx => hs x (List.mem_of_mem_take hx))
  refine doOk_of h1 ?_ (hs d (List.mem_of_getElem? hd))
  have : (l.take k).length ≤ l.length := by simp; omega
  omega
/-- What was refused left out: the same lots, no error. -/
def okDeeds (l : List Deed) (es : List Int) : List Deed := (l.zip es).filterMap fun p => if p.2 = 0 then some p.1 else none
theorem okDeeds_snoc {l : List Deed} {es : List Int} (h : l.length = es.length) (d : Deed) (e : Int) : okDeeds (l ++ [d]) (es ++ [e]) = okDeeds l es ++ (if e = 0 then [d] else []) := by
  unfold okDeeds
  rw [List.zip_append h, List.filterMap_append]
  by_cases he : e = 0 <;> simp [he]
theorem refused_law : ∀ (n : Nat) (l : List Deed), l.length = n → (∀ d ∈ l, d.spans.length ≤ 8) → (lotsK (okDeeds l (lotsK l).2)).1 = (lotsK l).1 ∧ ∀ e ∈ (lotsK (okDeeds l (lotsK l).2)).2, e = 0
  | 0, l, hn, _ => by
    have := List.eq_nil_of_length_eq_zero hn
    subst this
    exact ⟨rfl, fun e he => by cases he⟩
  | n + 1, l, hn, hs => by
    rcases List.eq_nil_or_concat l with rfl | ⟨l', d, rfl⟩
    · simp at hn
    · simp only [List.concat_eq_append] at *
      have hs' : ∀ x ∈ l', x.spans.length ≤ 8 := fun x hx => hs x (by simp [hx])
      obtain ⟨h1, h2⟩ := refused_law n l' (by simpa using hn) hs'
      obtain ⟨k1, k2, k3⟩ := lotsK_keeps n l' (by simpa using hn) hs'
      rw [lotsK_snoc, okDeeds_snoc (by rw [lotsK_errs])]
      by_cases he : (doB (lotsK l').1 d).2 = 0
      · rw [if_pos he, lotsK_snoc, h1]
        refine ⟨rfl, fun e hm => ?_⟩
        rcases List.mem_append.1 hm with hm | hm
        · exact h2 e hm
        · simp at hm; rw [hm]; exact he
      · rw [if_neg he, List.append_nil]
        exact ⟨by rw [h1, doB_refused k2 he], h2⟩
theorem okDeeds_mem {l : List Deed} {es : List Int} : ∀ d ∈ okDeeds l es, d ∈ l := by
  intro d hd
  unfold okDeeds at hd
  obtain ⟨p, hp, h⟩ := List.mem_filterMap.1 hd
  split at h
  · cases h; exact (List.of_mem_zip hp).1
  · cases h
end Go.Proofs.Ytjilbkioieicbaa
