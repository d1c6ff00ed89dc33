/- Lots as a function of the coins. -/
import Derived.Test.YtjilbkioieicbaaP3
namespace Go.Proofs.Ytjilbkioieicbaa
open Go.Vc Rt
set_option linter.unusedVariables false
set_option linter.unusedSimpArgs false
/-- What is known of one coin. -/
structure Sta where
  o : Int
  h : Int
  u : Int
  p : Int
theorem Sta.ext' {a b : Sta} (h1 : a.o = b.o) (h2 : a.h = b.h) (h3 : a.u = b.u) (h4 : a.p = b.p) : a = b := by cases a; cases b; simp_all
def stL (l : Lot) : Sta := ⟨l.o, l.h, l.u, l.p⟩
def sta (L : List Lot) (m n : Int) : Option Sta := (L.find? (inLot m n)).map stL
theorem sta_nil {m n : Int} : sta [] m n = none := rfl
theorem sta_cons {l : Lot} {L : List Lot} {m n : Int} : sta (l :: L) m n = if inLot m n l = true then some (stL l) else sta L m n := by
  unfold sta
  rw [List.find?_cons]
  cases h : inLot m n l <;> simp
theorem sta_append {A B : List Lot} {m n : Int} : sta (A ++ B) m n = (sta A m n).or (sta B m n) := by
  induction A with
  | nil => simp [sta_nil]
  | cons a A ih =>
    rw [List.cons_append, sta_cons, sta_cons, ih]
    split <;> simp
theorem sta_none {L : List Lot} {m n : Int} : sta L m n = none ↔ ¬ Cov L m n := by
  induction L with
  | nil => simp [sta_nil, Cov]
  | cons l L ih =>
    rw [sta_cons, Cov.cons]
    split
    · rename_i h; simp [h]
    · rename_i h; simp [h, ih]
theorem sta_mem {L : List Lot} {m n : Int} {x : Sta} (h : sta L m n = some x) : ∃ l ∈ L, inLot m n l = true ∧ stL l = x := by
  unfold sta at h
  obtain ⟨l, h1, h2⟩ := Option.map_eq_some_iff.1 h
  exact ⟨l, List.mem_of_find?_eq_some h1, List.find?_some h1, h2⟩
theorem sta_cov {L : List Lot} {m n : Int} : Cov L m n ↔ ∃ x, sta L m n = some x := by
  cases h : sta L m n with
  | none => have := sta_none.1 h; simp [this]
  | some x =>
    obtain ⟨l, hl, h1, _⟩ := sta_mem h
    simp; exact ⟨l, hl, h1⟩
theorem ord_tail {l : Lot} {L : List Lot} (h : Ord (l :: L)) : Ord L := ⟨fun x hx => h.ok x (List.mem_cons_of_mem _ hx), (List.pairwise_cons.1 h.ord).2⟩
theorem ord_apart {l : Lot} {L : List Lot} (h : Ord (l :: L)) {m n : Int} (hl : inLot m n l = true) : ∀ x ∈ L, inLot m n x = false := fun x hx => by
  have h1 := (List.pairwise_cons.1 h.ord).1 x hx
  have h2 := h.ok x (List.mem_cons_of_mem _ hx)
  cases hc : inLot m n x
  · rfl
  · rw [inLot_iff] at hl hc
    unfold bef at h1; unfold lotOk at h2
    omega
theorem sta_some : ∀ {L : List Lot}, Ord L → ∀ {l : Lot}, l ∈ L → ∀ {m n : Int}, inLot m n l = true → sta L m n = some (stL l)
  | x :: L, h, l, hl, m, n, hc => by
    rw [sta_cons]
    rcases List.mem_cons.1 hl with rfl | hl
    · rw [if_pos hc]
    · cases hx : inLot m n x
      · simp; exact sta_some (ord_tail h) hl hc
      · have := ord_apart h hx l hl
        rw [this] at hc; cases hc
theorem sta_first {L : List Lot} (h : Ord L) {l : Lot} (hl : l ∈ L) : sta L l.s.m l.s.f = some (stL l) := by
  refine sta_some h hl ?_
  have := h.ok l hl
  rw [inLot_iff]; unfold lotOk at this; omega
theorem sta_split {a b m n : Int} : ∀ {L : List Lot}, sta (split a b L) m n = sta L m n
  | [] => rfl
  | l :: L => by
    simp only [split]
    split
    · rename_i hc
      rw [cutsIn_iff] at hc
      rw [sta_cons, sta_cons, sta_cons]
      have e1 : stL (lotTo l b) = stL l := rfl
      have e2 : stL (lotFrom l b) = stL l := rfl
      have : (inLot m n (lotTo l b) = true ∨ inLot m n (lotFrom l b) = true) ↔ inLot m n l = true := by
        rw [inLot_iff, inLot_iff, inLot_iff]; unfold lotTo lotFrom; simp only; omega
      rw [e1, e2]
      by_cases h1 : inLot m n (lotTo l b) = true
      · rw [if_pos h1, if_pos (this.1 (.inl h1))]
      · rw [if_neg h1]
        by_cases h2 : inLot m n (lotFrom l b) = true
        · rw [if_pos h2, if_pos (this.1 (.inr h2))]
        · rw [if_neg h2, if_neg (fun h => (this.2 h).elim h1 h2)]
    · rw [sta_cons, sta_cons, sta_split]
theorem sta_cut {s : Span} {L : List Lot} {m n : Int} : sta (cutAt s L) m n = sta L m n := sta_split.trans sta_split
theorem joinL_sta {out : List Lot} {l : Lot} (h : ∀ x ∈ out ++ [l], x.s.f < x.s.t) : (∀ m n, sta (joinL out l) m n = sta (out ++ [l]) m n) ∧ ∀ x ∈ joinL out l, x.s.f < x.s.t := by
  rcases List.eq_nil_or_concat out with rfl | ⟨o, r, rfl⟩
  · exact ⟨fun _ _ => rfl, h⟩
  · simp only [List.concat_eq_append] at *
    rw [joinL_snoc]
    split
    · rename_i hc
      unfold alike at hc
      simp at hc
      have hr := h r (by simp)
      have hl := h l (by simp)
      refine ⟨fun m n => ?_, fun x hx => ?_⟩
      · rw [sta_append, List.append_assoc, sta_append]
        congr 1
        rw [List.singleton_append, sta_cons, sta_cons, sta_cons, sta_nil]
        have e1 : stL (lotTo r l.s.t) = stL r := rfl
        have e2 : stL l = stL r := Sta.ext' hc.1.symm hc.2.1.symm hc.2.2.1.symm hc.2.2.2.1.symm
        have : (inLot m n r = true ∨ inLot m n l = true) ↔ inLot m n (lotTo r l.s.t) = true := by
          rw [inLot_iff, inLot_iff, inLot_iff]; unfold lotTo; simp only; omega
        rw [e1, e2]
        by_cases h1 : inLot m n r = true
        · rw [if_pos h1, if_pos (this.1 (.inl h1))]
        · rw [if_neg h1]
          by_cases h2 : inLot m n l = true
          · rw [if_pos h2, if_pos (this.1 (.inr h2))]
          · rw [if_neg h2, if_neg (fun h => (this.2 h).elim h1 h2)]
      · rcases List.mem_append.1 hx with hx | hx
        · exact h x (by simp [hx])
        · simp at hx; subst hx; unfold lotTo; simp only; omega
    · exact ⟨fun _ _ => rfl, h⟩
theorem fold_sta : ∀ {L out : List Lot}, (∀ x ∈ out ++ L, x.s.f < x.s.t) → ∀ m n, sta (L.foldl joinL out) m n = sta (out ++ L) m n
  | [], out, _, m, n => by simp
  | l :: L, out, h, m, n => by
    have e : out ++ l :: L = (out ++ [l]) ++ L := by simp
    rw [e] at h
    obtain ⟨j1, j2⟩ := joinL_sta (out := out) (l := l) (fun x hx => h x (List.mem_append.2 (.inl hx)))
    rw [List.foldl_cons, fold_sta (fun x hx => (List.mem_append.1 hx).elim (j2 x) (fun hx => h x (List.mem_append.2 (.inr hx)))), sta_append, j1, ← sta_append, e]
theorem sta_merge {L : List Lot} (h : Ord L) (m n : Int) : sta (mergeL L) m n = sta L m n := by
  have := fold_sta (L := L) (out := []) (fun x hx => by have := h.ok x (by simpa using hx); unfold lotOk at this; omega) m n
  simpa [mergeL] using this
/-! ### Nothing is cut -/
def NoCut (L : List Lot) (m n : Int) : Prop := ∀ l ∈ L, cutsIn m n l = false
theorem split_keep {m n a b : Int} {L : List Lot} (h : NoCut L m n) : NoCut (split a b L) m n := fun x hx => by
  rcases split_mem hx with hx | ⟨l, hl, hc, hx⟩
  · exact h x hx
  · have := h l hl
    cases he : cutsIn m n x
    · rfl
    · rw [cutsIn_iff] at hc he
      rw [← this, eq_comm, cutsIn_iff]
      rcases hx with rfl | rfl
      · unfold lotTo at he; simp only at he; omega
      · unfold lotFrom at he; simp only at he; omega
theorem split_nocut {m n : Int} : ∀ {L : List Lot}, Ord L → NoCut (split m n L) m n
  | [], _ => fun x hx => by cases hx
  | l :: L, h => fun x hx => by
    simp only [split] at hx
    split at hx
    · rename_i hc
      rw [cutsIn_iff] at hc
      cases he : cutsIn m n x
      · rfl
      · rw [cutsIn_iff] at he
        rcases List.mem_cons.1 hx with rfl | hx
        · unfold lotTo at he; simp only at he; omega
        · rcases List.mem_cons.1 hx with rfl | hx
          · unfold lotFrom at he; simp only at he; omega
          · have := (List.pairwise_cons.1 h.ord).1 x hx
            unfold bef at this; omega
    · rename_i hc
      rcases List.mem_cons.1 hx with rfl | hx
      · simpa using hc
      · exact split_nocut (ord_tail h) x hx
theorem cut_nocut {s : Span} {L : List Lot} (h : Ord L) : NoCut (cutAt s L) s.m s.f ∧ NoCut (cutAt s L) s.m s.t := ⟨split_keep (split_nocut h), split_nocut (split_ord h)⟩
/-- A lot lies within a span. -/
def inSp (s : Span) (l : Lot) : Bool := decide (l.s.m = s.m) && (decide (s.f ≤ l.s.f) && decide (l.s.t ≤ s.t))
theorem inSp_iff {s : Span} {l : Lot} : inSp s l = true ↔ l.s.m = s.m ∧ s.f ≤ l.s.f ∧ l.s.t ≤ s.t := by unfold inSp; simp
theorem nocut_in {L : List Lot} {s : Span} (h1 : NoCut L s.m s.f) (h2 : NoCut L s.m s.t) {l : Lot} (hl : l ∈ L) {n : Int} (hc : inLot s.m n l = true) (hn : s.f ≤ n ∧ n < s.t) : inSp s l = true := by
  have a1 := h1 l hl
  have a2 := h2 l hl
  rw [inLot_iff] at hc
  have b1 : ¬ (l.s.m = s.m ∧ l.s.f < s.f ∧ s.f < l.s.t) := fun h => by rw [cutsIn_iff.2 h] at a1; cases a1
  have b2 : ¬ (l.s.m = s.m ∧ l.s.f < s.t ∧ s.t < l.s.t) := fun h => by rw [cutsIn_iff.2 h] at a2; cases a2
  rw [inSp_iff]; omega
/-- The lots of a span stand one after the other. -/
theorem seg {L : List Lot} {s : Span} (h : Ord L) (h1 : NoCut L s.m s.f) (h2 : NoCut L s.m s.t) (hs : s.f < s.t) {i k : Nat} {x y : Lot} (hx : L[i]? = some x) (hy : L[k]? = some y) (hx' : inLot s.m s.f x = true) (hy' : inLot s.m (s.t - 1) y = true) :
    (∀ l ∈ L.take i, inSp s l = false) ∧ (∀ l ∈ (L.take (k + 1)).drop i, inSp s l = true) ∧ ∀ l ∈ L.drop (k + 1), inSp s l = false := by
  have ix := nocut_in h1 h2 (List.mem_of_getElem? hx) hx' ⟨Int.le_refl _, hs⟩
  have iy := nocut_in h1 h2 (List.mem_of_getElem? hy) hy' ⟨by omega, by omega⟩
  rw [inSp_iff] at ix iy
  rw [inLot_iff] at hx' hy'
  refine ⟨fun l hl => ?_, fun l hl => ?_, fun l hl => ?_⟩
  · obtain ⟨j, hj, e⟩ := List.getElem_of_mem hl
    have hj' := hj
    rw [List.length_take] at hj'
    rw [List.getElem_take] at e
    have hb := ord_get h (List.getElem?_eq_getElem (show j < L.length by omega)) hx (by omega)
    have ok := h.ok l (List.mem_of_mem_take hl)
    rw [e] at hb
    cases hc : inSp s l
    · rfl
    · rw [inSp_iff] at hc
      unfold bef at hb; unfold lotOk at ok; omega
  · obtain ⟨j, hj, e⟩ := List.getElem_of_mem hl
    simp at hj
    rw [List.getElem_drop, List.getElem_take] at e
    have hjl : i + j < L.length := by omega
    have e' : L[i + j]? = some l := by rw [List.getElem?_eq_getElem hjl, e]
    have okx := h.ok x (List.mem_of_getElem? hx)
    have ok := h.ok l (List.mem_of_getElem? e')
    unfold lotOk at ok okx
    have b1 : (l.s.m = x.s.m ∧ x.s.f ≤ l.s.f) ∨ x.s.m < l.s.m := by
      rcases Nat.eq_zero_or_pos j with rfl | hp
      · rw [Nat.add_zero, hx] at e'; cases e'; exact .inl ⟨rfl, Int.le_refl _⟩
      · have := ord_get h hx e' (by omega)
        unfold bef at this; omega
    have b2 : (l.s.m = y.s.m ∧ l.s.t ≤ y.s.t) ∨ l.s.m < y.s.m := by
      rcases Nat.eq_or_lt_of_le (show i + j ≤ k by omega) with hh | hh
      · rw [hh, hy] at e'; cases e'; exact .inl ⟨rfl, Int.le_refl _⟩
      · have := ord_get h e' hy hh
        have oky := h.ok y (List.mem_of_getElem? hy)
        unfold bef at this; unfold lotOk at oky; omega
    rw [inSp_iff]; omega
  · obtain ⟨j, hj, e⟩ := List.getElem_of_mem hl
    simp at hj
    rw [List.getElem_drop] at e
    have hb := ord_get h hy (List.getElem?_eq_getElem (show k + 1 + j < L.length by omega)) (by omega)
    have ok := h.ok l (List.mem_of_mem_drop hl)
    rw [e] at hb
    cases hc : inSp s l
    · rfl
    · rw [inSp_iff] at hc
      unfold bef at hb; unfold lotOk at ok; omega
theorem parts3 {α : Type} (L : List α) {i k : Nat} (h : i ≤ k) : L = L.take i ++ (L.take k).drop i ++ L.drop k := by
  have e : L.take i = (L.take k).take i := by rw [List.take_take, Nat.min_eq_left h]
  rw [e, List.take_append_drop, List.take_append_drop]
theorem filter_seg {α : Type} {L : List α} {p : α → Bool} {i k : Nat} (h : i ≤ k) (h1 : ∀ l ∈ L.take i, p l = false) (h2 : ∀ l ∈ (L.take k).drop i, p l = true) (h3 : ∀ l ∈ L.drop k, p l = false) : L.filter p = (L.take k).drop i := by
  have e := parts3 L h
  have e1 : (L.take i).filter p = [] := List.filter_eq_nil_iff.2 fun l hl => by simp [h1 l hl]
  have e3 : (L.drop k).filter p = [] := List.filter_eq_nil_iff.2 fun l hl => by simp [h3 l hl]
  have e2 : ((L.take k).drop i).filter p = (L.take k).drop i := List.filter_eq_self.2 h2
  calc L.filter p = (L.take i ++ (L.take k).drop i ++ L.drop k).filter p := by rw [← e]
    _ = _ := by rw [List.filter_append, List.filter_append, e1, e2, e3]; simp
theorem updR_map {L : List Lot} {p : Lot → Bool} {f : Lot → Lot} {i k : Nat} (h : i ≤ k) (h1 : ∀ l ∈ L.take i, p l = false) (h2 : ∀ l ∈ (L.take k).drop i, p l = true) (h3 : ∀ l ∈ L.drop k, p l = false) : updR L i k f = L.map (fun l => if p l then f l else l) := by
  have e := parts3 L h
  have g : ∀ {A : List Lot}, (∀ l ∈ A, p l = false) → A.map (fun l => if p l then f l else l) = A := fun {A} hA => by
    have : A.map (fun l => if p l then f l else l) = A.map id := List.map_congr_left fun l hl => by rw [hA l hl]; rfl
    rw [this, List.map_id]
  have g2 : ((L.take k).drop i).map (fun l => if p l then f l else l) = ((L.take k).drop i).map f := List.map_congr_left fun l hl => by rw [h2 l hl]; rfl
  calc updR L i k f = L.take i ++ ((L.take k).drop i).map f ++ L.drop k := rfl
    _ = (L.take i ++ (L.take k).drop i ++ L.drop k).map (fun l => if p l then f l else l) := by rw [List.map_append, List.map_append, g h1, g2, g h3]
    _ = _ := by rw [← e]
/-- What one span asks: its lots, and what becomes of them. -/
theorem cut_form {L : List Lot} {s : Span} (h : Ord L) (hc : cutB s L = true) (hs : s.f < s.t) (f : Lot → Lot) :
    ((cutAt s L).take (cutK s L + 1).toNat).drop (cutI s L).toNat = (cutAt s L).filter (inSp s) ∧ updR (cutAt s L) (cutI s L).toNat (cutK s L + 1).toNat f = (cutAt s L).map (fun l => if inSp s l then f l else l) := by
  obtain ⟨c1, c2⟩ := cutB_cov hc
  obtain ⟨i, hi, x, hx, hx'⟩ := idx_found (cutAt_cov (s := s).2 c1)
  obtain ⟨k, hk, y, hy, hy'⟩ := idx_found (cutAt_cov (s := s).2 c2)
  have eI : cutI s L = i := hi
  have eK : cutK s L = k := hk
  have hik : i ≤ k := by unfold cutB at hc; rw [eI, eK] at hc; simp at hc; exact hc
  rw [eI, eK, show ((k : Int) + 1).toNat = k + 1 by omega, Int.toNat_natCast]
  obtain ⟨n1, n2⟩ := cut_nocut (s := s) h
  obtain ⟨s1, s2, s3⟩ := seg (cutAt_ord h) n1 n2 hs hx hy hx' hy'
  exact ⟨(filter_seg (by omega) s1 s2 s3).symm, updR_map (by omega) s1 s2 s3⟩
end Go.Proofs.Ytjilbkioieicbaa
