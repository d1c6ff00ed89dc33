/- How many coins. -/
import Derived.Test.YtjilbkioieicbaaP6
import Derived.Test.YtjilbkioieicbaaR3
namespace Go.Proofs.Ytjilbkioieicbaa
open Go.Vc Rt
set_option linter.unusedVariables false
set_option linter.unusedSimpArgs false
/-! ### Spans in order -/
def befS (a b : Span) : Prop := a.m < b.m ∨ (a.m = b.m ∧ a.t ≤ b.f)
theorem join_total {out : List Span} {s : Span} (h : ∀ x ∈ out, befS x s) (hs : s.f < s.t) : total (join out s) = total out + (s.t - s.f) ∧ ∀ z, befS s z → (∀ x ∈ out, befS x z) → ∀ x ∈ join out s, befS x z := by
  rcases List.eq_nil_or_concat out with rfl | ⟨o, r, rfl⟩
  · refine ⟨by simp [join, total], fun z hz _ x hx => ?_⟩
    simp [join] at hx; subst hx; exact hz
  · simp only [List.concat_eq_append] at *
    rw [join_snoc]
    have hr := h r (by simp)
    split
    · rename_i hc
      refine ⟨?_, fun z hz ho x hx => ?_⟩
      · rw [total_append, total_append]
        simp only [total, List.map_cons, List.map_nil, List.sum_cons, List.sum_nil]
        unfold befS at hr; omega
      · rcases List.mem_append.1 hx with hx | hx
        · exact ho x (by simp [hx])
        · simp at hx; subst hx
          unfold befS at *; simp only; omega
    · refine ⟨by rw [total_append]; simp [total], fun z hz ho x hx => ?_⟩
      rcases List.mem_append.1 hx with hx | hx
      · exact ho x hx
      · simp at hx; subst hx; exact hz
theorem joins_total : ∀ {l out : List Span}, (∀ x ∈ out, ∀ s ∈ l, befS x s) → l.Pairwise befS → (∀ s ∈ l, s.f < s.t) → total (l.foldl join out) = total out + total l
  | [], out, _, _, _ => by simp [total]
  | s :: l, out, h, hp, hs => by
    obtain ⟨p1, p2⟩ := List.pairwise_cons.1 hp
    obtain ⟨j1, j2⟩ := join_total (out := out) (s := s) (fun x hx => h x hx s (List.mem_cons_self ..)) (hs s (List.mem_cons_self ..))
    rw [List.foldl_cons, joins_total (fun x hx z hz => j2 z (p1 z hz) (fun y hy => h y hy z (List.mem_cons_of_mem _ hz)) x hx) p2 (fun x hx => hs x (List.mem_cons_of_mem _ hx)), j1]
    simp only [total, List.map_cons, List.sum_cons]; omega
theorem norm_total {l : List Span} (hv : ∀ s ∈ l, valid s = true) (hp : l.Pairwise befS) : total (norm l) = total l := by
  have hf : l.filter valid = l := List.filter_eq_self.2 hv
  have hp2 : l.Pairwise le2 := List.Pairwise.imp_of_mem (fun {a b} ha hb h => by
    have := valid_lt (hv a ha)
    unfold befS at h; unfold le2; omega) hp
  have e := norm_of_sorted (l := l) (ys := l) (by rw [hf]) hp2
  rw [← e]
  unfold joinAll
  rw [joins_total (fun x hx => by cases hx) hp (fun s hs => valid_lt (hv s hs))]
  simp [total]
theorem norm_id {l : List Span} (h : NF l) (hv : ∀ s ∈ l, valid s = true) : norm l = l := by
  obtain ⟨n1, n2⟩ := norm_spec l
  have hf : l.filter valid = l := List.filter_eq_self.2 hv
  exact n1.ext h (fun m n => by rw [n2, hf])
theorem norm_norm (l : List Span) : norm (norm l) = norm l := norm_id (norm_spec l).1 norm_valid
theorem count_norm (l : List Span) : count (norm l) = total (norm l) := by unfold count; rw [norm_norm]
theorem gap_trans {a b c : Span} (h : gap a b) (h' : gap b c) (hb : b.f < b.t) : gap a c := by unfold gap at *; omega
theorem normal_gap {l : List Span} (h : normal l = true) : ∀ (j : Nat) (i : Nat) a b, i < j → l[i]? = some a → l[j]? = some b → gap a b
  | 0, i, a, b, hij, _, _ => by omega
  | j + 1, i, a, b, hij, ha, hb => by
    have hj : j + 1 < l.length := (List.getElem?_eq_some_iff.1 hb).1
    have hr : l[j]? = some l[j] := List.getElem?_eq_getElem (by omega)
    have hv := normal_valid h l[j] (List.getElem_mem _)
    have ok : okAt l (j + 1) = true := by
      unfold normal at h
      rw [List.all_eq_true] at h
      exact h (j + 1) (List.mem_range.2 hj)
    unfold okAt at ok
    rw [hb] at ok
    simp only [Nat.add_sub_cancel, hr] at ok
    have hg : gap l[j] b := by
      simp at ok
      unfold gap; omega
    rcases Nat.eq_or_lt_of_le (show i ≤ j by omega) with rfl | hlt
    · rw [hr] at ha; cases ha; exact hg
    · exact gap_trans (normal_gap h j i a _ hlt ha hr) hg (valid_lt hv)
theorem normal_nf {l : List Span} (h : normal l = true) : NF l :=
  ⟨fun s hs => valid_lt (normal_valid h s hs), List.pairwise_iff_getElem.2 fun i j hi hj hij => normal_gap h j i _ _ hij (List.getElem?_eq_getElem hi) (List.getElem?_eq_getElem hj)⟩
theorem normal_count {l : List Span} (h : normal l = true) : count l = total l := by unfold count; rw [norm_id (normal_nf h) (normal_valid h)]
/-! ### Coins of lots of a kind -/
def sizeL (l : Lot) : Int := l.s.t - l.s.f
def mz (q : Sta → Bool) (L : List Lot) : Int := (L.map (fun l => if q (stL l) then sizeL l else 0)).sum
theorem mz_nil {q : Sta → Bool} : mz q [] = 0 := rfl
theorem mz_cons {q : Sta → Bool} {l : Lot} {L : List Lot} : mz q (l :: L) = (if q (stL l) then sizeL l else 0) + mz q L := by simp [mz]
theorem mz_append {q : Sta → Bool} {A B : List Lot} : mz q (A ++ B) = mz q A + mz q B := by simp [mz]
theorem mz_split {q : Sta → Bool} {m n : Int} : ∀ {L : List Lot}, mz q (split m n L) = mz q L
  | [] => rfl
  | l :: L => by
    simp only [split]
    split
    · rw [mz_cons, mz_cons, mz_cons]
      have e1 : stL (lotTo l n) = stL l := rfl
      have e2 : stL (lotFrom l n) = stL l := rfl
      rw [e1, e2]
      split
      · simp only [sizeL, lotTo, lotFrom]; omega
      · omega
    · rw [mz_cons, mz_cons, mz_split]
theorem mz_cut {q : Sta → Bool} {s : Span} {L : List Lot} : mz q (cutAt s L) = mz q L := by unfold cutAt; rw [mz_split, mz_split]
theorem joinL_mz {q : Sta → Bool} {out : List Lot} {l : Lot} : mz q (joinL out l) = mz q (out ++ [l]) := by
  rcases List.eq_nil_or_concat out with rfl | ⟨o, r, rfl⟩
  · rfl
  · simp only [List.concat_eq_append] at *
    rw [joinL_snoc]
    split
    · rename_i hc
      unfold alike at hc
      simp at hc
      rw [mz_append, mz_append, mz_append, mz_cons, mz_cons, mz_cons, mz_nil]
      have e1 : stL (lotTo r l.s.t) = stL r := rfl
      have e2 : stL l = stL r := Sta.ext' hc.1.symm hc.2.1.symm hc.2.2.1.symm hc.2.2.2.1.symm
      rw [e1, e2]
      split
      · simp only [sizeL, lotTo]; omega
      · omega
    · rfl
theorem fold_mz {q : Sta → Bool} : ∀ {L out : List Lot}, mz q (L.foldl joinL out) = mz q (out ++ L)
  | [], out => by simp
  | l :: L, out => by
    rw [List.foldl_cons, fold_mz, mz_append, joinL_mz, ← mz_append]; simp
theorem mz_merge {q : Sta → Bool} {L : List Lot} : mz q (mergeL L) = mz q L := by unfold mergeL; rw [fold_mz]; simp
theorem mz_run {q : Sta → Bool} {d : Deed} : ∀ {l : List Span} {L : List Lot} {e : Int}, mz q (mvRun d l L e).1 = mz q L
  | [], L, e => rfl
  | s :: l, L, e => by
    simp only [mvRun]
    split
    · rw [mz_run, mz_cut]
    · exact mz_cut
/-- The lots of a span have its coins. -/
theorem seg_sum : ∀ {L : List Lot} {s : Span}, Ord L → NoCut L s.m s.f → NoCut L s.m s.t → s.f ≤ s.t → (∀ n, s.f ≤ n → n < s.t → Cov L s.m n) → ((L.filter (inSp s)).map sizeL).sum = s.t - s.f
  | [], s, _, _, _, hs, hc => by
    rcases Int.lt_or_le s.f s.t with h | h
    · obtain ⟨l, hl, _⟩ := hc s.f (Int.le_refl _) h
      cases hl
    · simp; omega
  | l :: L, s, ho, h1, h2, hs, hc => by
    have ht := ord_tail ho
    have h1' : NoCut L s.m s.f := fun x hx => h1 x (List.mem_cons_of_mem _ hx)
    have h2' : NoCut L s.m s.t := fun x hx => h2 x (List.mem_cons_of_mem _ hx)
    have hl := ho.ok l (List.mem_cons_self ..)
    have hb := (List.pairwise_cons.1 ho.ord).1
    unfold lotOk at hl
    cases hi : inSp s l
    · rw [List.filter_cons_of_neg (by simp [hi])]
      refine seg_sum ht h1' h2' hs fun n a b => ?_
      have := hc n a b
      rw [Cov.cons] at this
      refine this.resolve_left fun h' => ?_
      rw [nocut_in h1 h2 (List.mem_cons_self ..) h' ⟨a, b⟩] at hi; cases hi
    · rw [List.filter_cons_of_pos hi, List.map_cons, List.sum_cons]
      rw [inSp_iff] at hi
      have hf : l.s.f = s.f := by
        have := hc s.f (Int.le_refl _) (by omega)
        rw [Cov.cons] at this
        rcases this with h' | ⟨x, hx, h'⟩
        · rw [inLot_iff] at h'; omega
        · have := hb x hx
          rw [inLot_iff] at h'
          unfold bef at this; omega
      have ih := seg_sum (L := L) (s := ⟨s.m, l.s.t, s.t⟩) ht (fun x hx => by
          have hx1 := hb x hx
          cases hq : cutsIn s.m l.s.t x
          · rfl
          · rw [cutsIn_iff] at hq; unfold bef at hx1; omega) h2' hi.2.2 (fun n a b => by
          simp only at a b
          have := hc n (by omega) b
          rw [Cov.cons] at this
          refine this.resolve_left fun h' => ?_
          rw [inLot_iff] at h'; omega)
      have hfe : L.filter (inSp s) = L.filter (inSp ⟨s.m, l.s.t, s.t⟩) := List.filter_congr fun x hx => by
        have hx1 := hb x hx
        have hx2 := ho.ok x (List.mem_cons_of_mem _ hx)
        unfold bef at hx1; unfold lotOk at hx2
        rw [Bool.eq_iff_iff, inSp_iff, inSp_iff]
        simp only; omega
      rw [hfe, ih]
      simp only [sizeL]; omega
/-- Coins that are spent. -/
def isOpen (x : Sta) : Bool := decide (x.p = -1)
theorem mz_upd_same {q : Sta → Bool} {d : Deed} {s : Span} (hq : ∀ x, q (movedS d x) = q x) : ∀ {L : List Lot}, mz q (L.map (fun l => if inSp s l then movedL d l else l)) = mz q L
  | [] => rfl
  | l :: L => by
    rw [List.map_cons, mz_cons, mz_cons, mz_upd_same hq]
    congr 1
    split
    · rw [moved_st, hq]
      have : sizeL (movedL d l) = sizeL l := by unfold sizeL; rw [movedL_s]
      rw [this]
    · rfl
theorem mz_upd_spent {d : Deed} {s : Span} (hq : ∀ x, isOpen (movedS d x) = false) : ∀ {L : List Lot}, (∀ l ∈ L, inSp s l = true → isOpen (stL l) = true) → mz isOpen (L.map (fun l => if inSp s l then movedL d l else l)) = mz isOpen L - ((L.filter (inSp s)).map sizeL).sum
  | [], _ => by simp [mz]
  | l :: L, h => by
    rw [List.map_cons, mz_cons, mz_cons, mz_upd_spent hq (fun x hx => h x (List.mem_cons_of_mem _ hx))]
    cases hi : inSp s l
    · rw [List.filter_cons_of_neg (by simp [hi])]
      simp only [Bool.false_eq_true, if_false]; omega
    · rw [List.filter_cons_of_pos hi, List.map_cons, List.sum_cons]
      simp only [if_true]
      rw [moved_st, hq, h l (List.mem_cons_self ..) hi]
      simp only [Bool.false_eq_true, if_false, if_true]; omega
theorem mv2_mz_same {q : Sta → Bool} {d : Deed} (hq : ∀ x, q (movedS d x) = q x) : ∀ {l : List Span} {L : List Lot}, Ord L → (∀ s ∈ l, Cov L s.m s.f ∧ Cov L s.m (s.t - 1) ∧ s.f < s.t) → mz q (mv2 d l L) = mz q L
  | [], L, h, _ => rfl
  | s :: l, L, h, hc => by
    obtain ⟨c1, c2, c3⟩ := hc s (List.mem_cons_self ..)
    have hb := cutB_of h c1 c2 c3
    obtain ⟨f1, f2⟩ := cut_form h hb c3 (movedL d)
    have hsp : ((cutAt s L).map (fun l => if inSp s l then movedL d l else l)).map (·.s) = (cutAt s L).map (·.s) := by
      rw [List.map_map]
      refine List.map_congr_left fun l _ => ?_
      simp only [Function.comp]
      split
      · exact movedL_s d l
      · rfl
    have ho := ord_congr hsp.symm (cutAt_ord (s := s) h)
    have hcv : ∀ m n, Cov ((cutAt s L).map (fun l => if inSp s l then movedL d l else l)) m n ↔ Cov L m n := fun m n => (cov_congr hsp).trans cutAt_cov
    simp only [mv2]
    rw [f2, mv2_mz_same hq ho (fun x hx => by rw [hcv, hcv]; exact hc x (List.mem_cons_of_mem _ hx)), mz_upd_same hq, mz_cut]
theorem mv2_mz_spent {d : Deed} (hq : ∀ x, isOpen (movedS d x) = false) : ∀ {l : List Span} {L : List Lot}, Ord L → (∀ s ∈ l, s.f < s.t ∧ ∀ n, s.f ≤ n → n < s.t → ∃ x, sta L s.m n = some x ∧ isOpen x = true) → l.Pairwise gap → mz isOpen (mv2 d l L) = mz isOpen L - total l
  | [], L, h, _, _ => by simp [mv2, total]
  | s :: l, L, h, hc, hp => by
    obtain ⟨c3, c4⟩ := hc s (List.mem_cons_self ..)
    have hcov : ∀ n, s.f ≤ n → n < s.t → Cov L s.m n := fun n a b => by
      obtain ⟨x, hx, _⟩ := c4 n a b
      exact sta_cov.2 ⟨x, hx⟩
    have hb := cutB_of h (hcov s.f (Int.le_refl _) c3) (hcov (s.t - 1) (by omega) (by omega)) c3
    obtain ⟨f1, f2⟩ := cut_form h hb c3 (movedL d)
    obtain ⟨n1, n2⟩ := cut_nocut (s := s) h
    obtain ⟨p1, p2⟩ := List.pairwise_cons.1 hp
    have hsp : ((cutAt s L).map (fun l => if inSp s l then movedL d l else l)).map (·.s) = (cutAt s L).map (·.s) := by
      rw [List.map_map]
      refine List.map_congr_left fun l _ => ?_
      simp only [Function.comp]
      split
      · exact movedL_s d l
      · rfl
    have hco := cutAt_ord (s := s) h
    have ho := ord_congr hsp.symm hco
    simp only [mv2]
    rw [f2, mv2_mz_spent hq ho (fun z hz => ?_) p2, mz_upd_spent hq (fun x hx hi => ?_), mz_cut, seg_sum hco n1 n2 (by omega) (fun n a b => cutAt_cov.2 (hcov n a b))]
    · simp only [total, List.map_cons, List.sum_cons]; omega
    · have hx1 := hco.ok x hx
      rw [inSp_iff] at hi
      unfold lotOk at hx1
      obtain ⟨y, hy, hy'⟩ := c4 x.s.f hi.2.1 (by omega)
      rw [← sta_cut (s := s), ← hi.1, sta_first hco hx] at hy
      cases hy; exact hy'
    · obtain ⟨z1, z2⟩ := hc z (List.mem_cons_of_mem _ hz)
      refine ⟨z1, fun n a b => ?_⟩
      rw [sta_upd n1 n2, sta_cut, if_neg (fun h' => ?_)]
      · exact z2 n a b
      · have := p1 z hz
        unfold gap at this; omega
/-! ### One deed -/
def paid (k : Int) (d : Deed) (e : Int) : Int := if e = 0 ∧ d.kind = k then count d.spans else 0
theorem mz_ins {q : Sta → Bool} {L : List Lot} {i : Nat} {x : Lot} : mz q (insL L i x) = mz q L + (if q (stL x) then sizeL x else 0) := by
  unfold insL
  rw [mz_append, mz_append, mz_cons, mz_nil]
  have : mz q L = mz q (L.take i) + mz q (L.drop i) := by rw [← mz_append, List.take_append_drop]
  omega
theorem mayS_open {x : Sta} {d : Deed} (h : mayS x d = 0) : x.p = -1 := by
  unfold mayS at h
  split at h
  · cases h
  · rename_i h'; omega
theorem errSet_all {F : Int → Int → Option Sta} {l : List Span} {d : Deed} (h : errSet (fun c => ∃ m n x, Has l m n ∧ F m n = some x ∧ mayS x d = c) = 0) : ∀ m n x, Has l m n → F m n = some x → mayS x d = 0 := fun m n x h1 h2 => by
  obtain ⟨a, b, c⟩ := errSet_zero h
  rcases mayS_is x d with h' | h' | h' | h'
  · exact h'
  · exact (a ⟨m, n, x, h1, h2, h'⟩).elim
  · exact (b ⟨m, n, x, h1, h2, h'⟩).elim
  · exact (c ⟨m, n, x, h1, h2, h'⟩).elim
theorem errF_move {F : Int → Int → Option Sta} {d : Deed} (he : errF F d = 0) (hk : d.kind ≠ 0) : ∀ m n, Has d.spans m n → ∃ x, F m n = some x ∧ mayS x d = 0 := by
  have hr := err_right he
  unfold errF at he
  rw [if_neg (by rw [hr]; simp), if_neg hk] at he
  split at he
  · cases he
  · rename_i hn
    intro m n hh
    cases hx : F m n with
    | none => exact (hn ⟨m, n, hh, hx⟩).elim
    | some x => exact ⟨x, rfl, errSet_all he m n x hh hx⟩
theorem do_mz {L : List Lot} {d : Deed} (h : Good L) : mz (fun _ => true) (doB L d).1 = mz (fun _ => true) L + paid 0 d (doB L d).2 ∧ mz isOpen (doB L d).1 = mz isOpen L + paid 0 d (doB L d).2 - paid 3 d (doB L d).2 := by
  by_cases he : (doB L d).2 = 0
  case neg =>
    rw [doB_refused h.mgd he]
    unfold paid
    rw [if_neg (fun h' => he h'.1), if_neg (fun h' => he h'.1)]
    omega
  have e0 := he
  rw [(do_F (d := d) h.ord h.full).1] at e0
  have hr := err_right e0
  have hn := (right_parts hr).2.2.2.2
  have hcnt := normal_count hn
  rw [he]
  unfold doB at *
  rw [if_pos hr] at *
  by_cases hk : d.kind = 0
  · rw [if_pos hk] at *
    obtain ⟨s, hs, hm, hf⟩ := right_take hr hk
    simp only at *
    rw [mz_merge, mz_merge]
    unfold takeB at *
    split at he
    · cases he
    · rename_i hth
      rw [if_neg hth, hs]
      simp only [List.headD_cons]
      have p0 : paid 0 d 0 = s.t - s.f := by unfold paid; rw [if_pos ⟨rfl, hk⟩, hcnt, hs]; simp [total]
      have p3 : paid 3 d 0 = 0 := by unfold paid; rw [if_neg (by omega)]
      rw [mz_ins, mz_ins, p0, p3]
      simp [sizeL, isOpen, stL]
  · rw [if_neg hk] at *
    simp only at *
    rw [mz_merge, mz_merge]
    have hall := errF_move e0 hk
    obtain ⟨m1, m2, m3, m4⟩ := mvRun_spec (d := d) (l := d.spans) (e := 0) h.ord
    obtain ⟨k1, k2, k3⟩ := mvRun_form (d := d) (l := d.spans) (e := 0) h.ord h.full (fun s hs => by have := right_spans hr s hs; omega) (.inl rfl)
    have hmv : (moveB L d).1 = mv2 d d.spans (mvRun d d.spans L 0).1 := by
      unfold moveB at *
      simp only at *
      split at he
      · cases he
      · split at he
        · rename_i h1 h2; exact (h2 he).elim
        · rename_i h1 h2; rw [if_neg h1, if_neg h2]
    have hc : (mvRun d d.spans L 0).2.2 = true := k2.2 (all_iff.2 fun ⟨m, n, h1, h2⟩ => by
      obtain ⟨x, hx, _⟩ := hall m n h1
      rw [hx] at h2; cases h2)
    have hcov := m4 hc
    have hcov2 : ∀ s ∈ d.spans, Cov (mvRun d d.spans L 0).1 s.m s.f ∧ Cov (mvRun d d.spans L 0).1 s.m (s.t - 1) ∧ s.f < s.t := fun s hs => by
      rw [m2, m2]; exact ⟨(hcov s hs).1, (hcov s hs).2, by have := right_spans hr s hs; omega⟩
    rw [hmv]
    refine ⟨?_, ?_⟩
    · rw [mv2_mz_same (fun _ => rfl) m1 hcov2, mz_run]
      unfold paid; rw [if_neg (fun h' => hk h'.2)]; omega
    · by_cases hk3 : d.kind = 3
      · have hmk := (right_parts hr).1
        have hq : ∀ x, isOpen (movedS d x) = false := fun x => by
          unfold movedS isOpen
          rw [if_neg (by omega), if_neg (by omega), if_pos hk3]
          simp; omega
        have hall2 : ∀ s ∈ d.spans, s.f < s.t ∧ ∀ n, s.f ≤ n → n < s.t → ∃ x, sta (mvRun d d.spans L 0).1 s.m n = some x ∧ isOpen x = true := fun s hs => ⟨by have := right_spans hr s hs; omega, fun n a b => by
          obtain ⟨x, hx, hx'⟩ := hall s.m n ⟨s, hs, rfl, a, b⟩
          exact ⟨x, by rw [k1]; exact hx, by unfold isOpen; rw [mayS_open hx']; rfl⟩⟩
        rw [mv2_mz_spent hq m1 hall2 (normal_nf hn).ord, mz_run]
        unfold paid; rw [if_neg (by omega), if_pos ⟨rfl, hk3⟩, hcnt]; omega
      · have hq : ∀ x, isOpen (movedS d x) = isOpen x := fun x => by
          unfold movedS isOpen
          split
          · rfl
          · split
            · rfl
            · rfl
        rw [mv2_mz_same hq m1 hcov2, mz_run]
        unfold paid; rw [if_neg (fun h' => hk h'.2), if_neg (fun h' => hk3 h'.2)]; omega
/-- What was taken, what was spent. -/
def paidAll (k : Int) (l : List Deed) (es : List Int) : Int := ((l.zip es).map fun p => paid k p.1 p.2).sum
theorem paid_snoc {k : Int} {l : List Deed} {es : List Int} (h : l.length = es.length) (d : Deed) (e : Int) : paidAll k (l ++ [d]) (es ++ [e]) = paidAll k l es + paid k d e := by
  unfold paidAll
  rw [List.zip_append h, List.map_append, List.sum_append]
  simp
theorem lots_mz : ∀ (n : Nat) (l : List Deed), l.length = n → (∀ d ∈ l, d.spans.length ≤ 8) → mz (fun _ => true) (lotsK l).1 = paidAll 0 l (lotsK l).2 ∧ mz isOpen (lotsK l).1 = paidAll 0 l (lotsK l).2 - paidAll 3 l (lotsK l).2
  | 0, l, hn, _ => by
    have := List.eq_nil_of_length_eq_zero hn
    subst this
    exact ⟨rfl, rfl⟩
  | n + 1, l, hn, hs => by
    rcases List.eq_nil_or_concat l with rfl | ⟨l', d, rfl⟩
    · simp at hn
    · simp only [List.concat_eq_append] at *
      have hs' : ∀ x ∈ l', x.spans.length ≤ 8 := fun x hx => hs x (by simp [hx])
      obtain ⟨h1, h2⟩ := lots_mz n l' (by simpa using hn) hs'
      obtain ⟨k1, k2⟩ := do_mz (d := d) (good_lots n l' (by simpa using hn) hs')
      rw [lotsK_snoc]
      simp only
      rw [paid_snoc (by rw [lotsK_errs]), paid_snoc (by rw [lotsK_errs]), k1, k2, h1, h2]
      omega
/-! ### Who has how much -/
theorem openL_total {p : Lot → Bool} : ∀ {L : List Lot}, total (openL p L) = (L.map (fun l => if decide (l.p = -1) && p l then sizeL l else 0)).sum
  | [] => rfl
  | l :: L => by
    have ih := openL_total (p := p) (L := L)
    unfold openL at *
    rw [List.filter_cons, List.map_cons, List.sum_cons, ← ih]
    split
    · rw [List.map_cons]; simp only [total, List.map_cons, List.sum_cons, sizeL]
    · simp
theorem openL_norm {p : Lot → Bool} {L : List Lot} (h : Ord L) : count (norm (openL p L)) = total (openL p L) := by
  rw [count_norm]
  refine norm_total (fun s hs => ?_) ?_
  · unfold openL at hs
    obtain ⟨l, hl, rfl⟩ := List.mem_map.1 hs
    have := h.ok l ((List.mem_filter.1 hl).1)
    unfold lotOk at this
    unfold valid isMark; simp; omega
  · unfold openL
    rw [List.pairwise_map]
    exact (h.ord.filter _).imp fun h' => h'
def sumTo (f : Nat → Int) : Nat → Int
  | 0 => 0
  | n + 1 => sumTo f n + f n
theorem sumTo_add {f g : Nat → Int} : ∀ n, sumTo (fun k => f k + g k) n = sumTo f n + sumTo g n
  | 0 => rfl
  | n + 1 => by simp only [sumTo]; rw [sumTo_add n]; omega
theorem sumTo_one {o c : Int} {b : Bool} : ∀ n : Nat, sumTo (fun k => if b && decide (o = (k : Int)) then c else 0) n = if b = true ∧ 0 ≤ o ∧ o < n then c else 0
  | 0 => by simp [sumTo]; omega
  | n + 1 => by
    simp only [sumTo]
    rw [sumTo_one n]
    cases b
    · simp
    · simp only [Bool.true_and, decide_eq_true_eq, true_and]
      by_cases h : o = n
      · rw [if_neg (by omega), if_pos h, if_pos (by omega)]; omega
      · rw [if_neg h, Int.add_zero]
        by_cases h2 : 0 ≤ o ∧ o < n
        · rw [if_pos h2, if_pos (by omega)]
        · rw [if_neg h2, if_neg (by omega)]
theorem sumTo_zero : ∀ n, sumTo (fun _ => 0) n = 0
  | 0 => rfl
  | n + 1 => by simp only [sumTo]; rw [sumTo_zero n]; rfl
theorem keys_total {g : Lot → Int} {N : Nat} : ∀ {L : List Lot}, (∀ l ∈ L, 0 ≤ g l ∧ g l < N) → sumTo (fun k => total (openL (fun l => decide (g l = (k : Int))) L)) N = total (openL (fun _ => true) L)
  | [], _ => by
    have : (fun k : Nat => total (openL (fun l => decide (g l = (k : Int))) [])) = fun _ => 0 := rfl
    rw [this, sumTo_zero]; rfl
  | l :: L, h => by
    have ih := keys_total (g := g) (L := L) (fun x hx => h x (List.mem_cons_of_mem _ hx))
    have hk := h l (List.mem_cons_self ..)
    simp only [openL_total, List.map_cons, List.sum_cons] at *
    rw [sumTo_add, ih, sumTo_one]
    congr 1
    simp only [Bool.and_true, decide_eq_true_eq]
    by_cases hp : l.p = -1
    · rw [if_pos ⟨hp, by omega, by omega⟩, if_pos hp]
    · rw [if_neg (fun h' => hp h'.1), if_neg hp]
theorem open_mz {L : List Lot} : total (openL (fun _ => true) L) = mz isOpen L := by
  rw [openL_total]; unfold mz isOpen stL; simp
/-- Before a lot that does not begin its receipt lies its neighbor. -/
theorem lot_prev {L : List Lot} (h : Good L) {i : Nat} {x : Lot} (hx : L[i]? = some x) : (0 < x.s.f → 0 < i ∧ ∀ y, L[i - 1]? = some y → y.s.m = x.s.m ∧ y.s.t = x.s.f) ∧ (0 < i → ∀ y, L[i - 1]? = some y → y.s.m ≤ x.s.m ∧ (x.s.f = 0 → y.s.m ≠ x.s.m)) := by
  have okx := h.ord.ok x (List.mem_of_getElem? hx)
  unfold lotOk at okx
  refine ⟨fun hf => ?_, fun hi y hy => ?_⟩
  · obtain ⟨st, hst⟩ := h.full x.s.m x.s.f (x.s.f - 1) (by omega) (by omega) ⟨_, sta_first h.ord (List.mem_of_getElem? hx)⟩
    obtain ⟨z, hz, hc, _⟩ := sta_mem hst
    rw [inLot_iff] at hc
    obtain ⟨j, hj, e⟩ := List.getElem_of_mem hz
    have ej : L[j]? = some z := by rw [List.getElem?_eq_getElem hj, e]
    have hji : j < i := by
      rcases Nat.lt_trichotomy j i with h' | h' | h'
      · exact h'
      · subst h'; rw [hx] at ej; cases ej; omega
      · have := ord_get h.ord hx ej h'
        unfold bef at this; omega
    have hzx := ord_get h.ord ej hx hji
    unfold bef at hzx
    refine ⟨by omega, fun y hy => ?_⟩
    rcases Nat.eq_or_lt_of_le (show j ≤ i - 1 by omega) with h' | h'
    · rw [← h', ej] at hy; cases hy; exact ⟨hc.1, by omega⟩
    · have h1 := ord_get h.ord ej hy h'
      have h2 := ord_get h.ord hy hx (by omega)
      have oky := h.ord.ok y (List.mem_of_getElem? hy)
      unfold bef at h1 h2; unfold lotOk at oky; omega
  · have h2 := ord_get h.ord hy hx (by omega)
    have oky := h.ord.ok y (List.mem_of_getElem? hy)
    unfold bef at h2; unfold lotOk at oky; omega
theorem mz_all {L : List Lot} : mz (fun _ => true) L = (L.map sizeL).sum := by unfold mz; simp
end Go.Proofs.Ytjilbkioieicbaa
