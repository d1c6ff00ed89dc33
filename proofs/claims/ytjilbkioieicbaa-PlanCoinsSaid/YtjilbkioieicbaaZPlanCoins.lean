/- The law PlanCoins: for every input the call returns true and the arguments read as before; no condition. -/
import Derived.Test.YtjilbkioieicbaaMF
import Derived.Test.YtjilbkioieicbaaME
import Derived.Test.YtjilbkioieicbaaMP
import Derived.Test.YtjilbkioieicbaaMO
import Derived.Test.YtjilbkioieicbaaVcAgg
import Derived.Test.YtjilbkioieicbaaRows
import Derived.WalkKit
import Derived.ProofKit
import Derived.OpenShut
import Derived.Carry
/- The law RightsParts, in plain terms. -/
namespace Go.Proofs.Ytjilbkioieicbaa
open Go.Vc Rt
set_option linter.unusedVariables false
set_option linter.unusedSimpArgs false
def withS (d : Deed) (S : List Span) : Deed := { d with spans := S }
theorem nf_normal {l : List Span} (h : NF l) (hv : ∀ s ∈ l, valid s = true) : normal l = true := by
  unfold normal
  rw [List.all_eq_true]
  intro i hi
  have hi := List.mem_range.1 hi
  have e : l[i]? = some l[i] := List.getElem?_eq_getElem hi
  unfold okAt
  rw [e]
  simp only
  rw [hv l[i] (List.getElem_mem hi)]
  simp only [Bool.true_and, Bool.or_eq_true, beq_iff_eq]
  by_cases h0 : i = 0
  · exact .inl h0
  · refine .inr ?_
    have e1 : l[i - 1]? = some (l[i - 1]'(by omega)) := List.getElem?_eq_getElem (by omega)
    rw [e1]
    have hg := List.pairwise_iff_getElem.1 h.ord (i - 1) i (by omega) hi (by omega)
    have h1 := h.ne _ (List.getElem_mem hi)
    unfold gap at hg
    simp
    omega
theorem normal_one {s : Span} (h : valid s = true) : normal [s] = true := nf_normal ⟨fun x hx => by rw [List.mem_singleton.1 hx]; exact valid_lt h, by simp⟩ fun x hx => by rw [List.mem_singleton.1 hx]; exact h
theorem right_with {d : Deed} {S : List Span} (hr : right d = true) (hk : d.kind ≠ 0) (h1 : 0 < S.length) (h2 : normal S = true) : right (withS d S) = true := by
  obtain ⟨a1, a2, a3, _, _⟩ := right_parts hr
  have hb : ¬ ((withS d S).mark < 0 ∨ 1073741824 < (withS d S).mark ∨ isKey (withS d S).author = false ∨ (withS d S).spans.length = 0 ∨ normal (withS d S).spans = false) := right_base ⟨a1, a2⟩ a3 h1 h2
  unfold right at hr ⊢
  split at hr
  · cases hr
  · rw [if_neg hb]
    rw [if_neg (show ¬ (withS d S).kind = 0 from hk)]
    exact hr
theorem parts_run {d : Deed} (hr : right d = true) (hk : d.kind ≠ 0) {F : Int → Int → Option Sta} (he : errF F d = 0) : ∀ (P : List (List Span)) (l0 : List Deed) (D : Int → Int → Prop),
    (∀ S ∈ P, 0 < S.length ∧ S.length ≤ 8 ∧ normal S = true ∧ ∀ m n, Has S m n → Has d.spans m n ∧ ¬ D m n) → P.Pairwise (fun S T => ∀ m n, Has S m n → ¬ Has T m n) → (∀ x ∈ l0, x.spans.length ≤ 8) →
    (∀ m n, (D m n → sta (lotsK l0).1 m n = (F m n).map (movedS d)) ∧ (¬ D m n → sta (lotsK l0).1 m n = F m n)) →
    (∀ m n, ((D m n ∨ ∃ S ∈ P, Has S m n) → sta (lotsK (l0 ++ P.map (withS d))).1 m n = (F m n).map (movedS d)) ∧ (¬ (D m n ∨ ∃ S ∈ P, Has S m n) → sta (lotsK (l0 ++ P.map (withS d))).1 m n = F m n)) ∧ (lotsK (l0 ++ P.map (withS d))).2 = (lotsK l0).2 ++ P.map (fun _ => (0 : Int))
  | [], l0, D, _, _, _, hs => by
    simp only [List.map_nil, List.append_nil]
    refine ⟨fun m n => ⟨fun h => (hs m n).1 (h.elim id fun ⟨S, hS, _⟩ => by cases hS), fun h => (hs m n).2 fun hD => h (.inl hD)⟩, trivial⟩
  | S :: P, l0, D, hP, hp, h8, hs => by
    obtain ⟨p1, p2⟩ := List.pairwise_cons.1 hp
    obtain ⟨s1, s2, s3, s4⟩ := hP S (List.mem_cons_self ..)
    have hg := good_lots _ l0 rfl h8
    have hrS : right (withS d S) = true := right_with hr hk s1 s3
    have hcoin : ∀ m n, Has S m n → ∃ x, F m n = some x ∧ mayS x d = 0 ∧ sta (lotsK l0).1 m n = some x := fun m n hh => by
      obtain ⟨h1, h2⟩ := s4 m n hh
      obtain ⟨x, hx, hm⟩ := errF_move he hk m n h1
      exact ⟨x, hx, hm, by rw [(hs m n).2 h2]; exact hx⟩
    have e0 : errF (sta (lotsK l0).1) (withS d S) = 0 := err_0 hrS hk fun m n hh => by
      obtain ⟨x, _, h2, h3⟩ := hcoin m n hh
      exact ⟨x, h3, h2⟩
    obtain ⟨_, g2, g3⟩ := good_do (d := withS d S) hg s2
    rw [e0] at g2
    have hsn := lotsK_snoc l0 (withS d S)
    rw [g2] at hsn
    have hst : ∀ m n, (D m n ∨ Has S m n → sta (lotsK (l0 ++ [withS d S])).1 m n = (F m n).map (movedS d)) ∧ (¬ (D m n ∨ Has S m n) → sta (lotsK (l0 ++ [withS d S])).1 m n = F m n) := by
      intro m n
      rw [hsn]
      simp only
      rw [g3]
      by_cases hh : Has S m n
      · obtain ⟨x, h1, h2, h3⟩ := hcoin m n hh
        refine ⟨fun _ => ?_, fun h => (h (.inr hh)).elim⟩
        unfold stepF
        rw [if_pos e0, if_pos (show Has (withS d S).spans m n from hh), if_neg (show ¬ (withS d S).kind = 0 from hk), h3, h1]
        rfl
      · rw [coin_not (show ¬ Has (withS d S).spans m n from hh)]
        exact ⟨fun h => (hs m n).1 (h.elim id fun h => (hh h).elim), fun h => (hs m n).2 fun hD => h (.inl hD)⟩
    obtain ⟨r1, r2⟩ := parts_run hr hk he P (l0 ++ [withS d S]) (fun m n => D m n ∨ Has S m n) (fun T hT => by
      obtain ⟨t1, t2, t3, t4⟩ := hP T (List.mem_cons_of_mem _ hT)
      exact ⟨t1, t2, t3, fun m n hh => ⟨(t4 m n hh).1, fun h => h.elim (t4 m n hh).2 fun h' => p1 T hT m n h' hh⟩⟩) p2 (fun x hx => by
      rcases List.mem_append.1 hx with hx | hx
      · exact h8 x hx
      · rw [List.mem_singleton.1 hx]; exact s2) hst
    have el : l0 ++ List.map (withS d) (S :: P) = (l0 ++ [withS d S]) ++ P.map (withS d) := by simp
    rw [el]
    refine ⟨fun m n => ⟨fun h => (r1 m n).1 ?_, fun h => (r1 m n).2 fun h' => h ?_⟩, by rw [r2, hsn]; simp⟩
    · rcases h with h | ⟨T, hT, hh⟩
      · exact .inl (.inl h)
      · rcases List.mem_cons.1 hT with rfl | hT
        · exact .inl (.inr hh)
        · exact .inr ⟨T, hT, hh⟩
    · rcases h' with (h' | h') | ⟨T, hT, hh⟩
      · exact .inl h'
      · exact .inr ⟨S, List.mem_cons_self .., h'⟩
      · exact .inr ⟨T, List.mem_cons_of_mem _ hT, hh⟩
theorem parts_law {l : List Deed} {d : Deed} (h8 : ∀ x ∈ l, x.spans.length ≤ 8) (hd8 : d.spans.length ≤ 8) (hk : d.kind ≠ 0) (he : errF (sta (lotsK l).1) d = 0) {P : List (List Span)}
    (hP : ∀ S ∈ P, 0 < S.length ∧ S.length ≤ 8 ∧ normal S = true) (hp : P.Pairwise (fun S T => ∀ m n, Has S m n → ¬ Has T m n)) (hU : ∀ m n, Has d.spans m n ↔ ∃ S ∈ P, Has S m n) :
    lotsK (l ++ P.map (withS d)) = ((doB (lotsK l).1 d).1, (lotsK l).2 ++ P.map (fun _ => (0 : Int))) := by
  have hr := err_right he
  have hg := good_lots _ l rfl h8
  obtain ⟨g1, g2, g3⟩ := good_do (d := d) hg hd8
  obtain ⟨r1, r2⟩ := parts_run hr hk he P l (fun _ _ => False) (fun S hS => ⟨(hP S hS).1, (hP S hS).2.1, (hP S hS).2.2, fun m n hh => ⟨(hU m n).2 ⟨S, hS, hh⟩, id⟩⟩) hp h8 (fun m n => ⟨False.elim, fun _ => rfl⟩)
  refine Prod.ext (Good.ext (good_lots _ _ rfl fun x hx => ?_) g1 ?_) r2
  · rcases List.mem_append.1 hx with hx | hx
    · exact h8 x hx
    · obtain ⟨S, hS, rfl⟩ := List.mem_map.1 hx; exact (hP S hS).2.1
  · rw [g3]
    funext m n
    by_cases hh : Has d.spans m n
    · rw [(r1 m n).1 (.inr ((hU m n).1 hh))]
      unfold stepF
      rw [if_pos he, if_pos hh, if_neg hk]
    · rw [coin_not hh]
      exact (r1 m n).2 fun h => h.elim id fun h => hh ((hU m n).2 h)
def partsOne (S : List Span) : List (List Span) := S.map fun s => [s]
theorem one_law {l : List Deed} {d : Deed} (h8 : ∀ x ∈ l, x.spans.length ≤ 8) (hd8 : d.spans.length ≤ 8) (hk : d.kind ≠ 0) (he : errF (sta (lotsK l).1) d = 0) :
    lotsK (l ++ (partsOne d.spans).map (withS d)) = ((doB (lotsK l).1 d).1, (lotsK l).2 ++ (partsOne d.spans).map (fun _ => (0 : Int))) := by
  have hr := err_right he
  have hnf := normal_nf (right_parts hr).2.2.2.2
  have hv := normal_valid (right_parts hr).2.2.2.2
  refine parts_law h8 hd8 hk he (fun S hS => ?_) ?_ fun m n => ?_
  · obtain ⟨s, hs, rfl⟩ := List.mem_map.1 hS
    exact ⟨by simp, by simp, normal_one (hv s hs)⟩
  · refine List.pairwise_map.2 (hnf.ord.imp fun {a b} hg m n h1 h2 => ?_)
    rw [Has.one] at h1 h2
    unfold gap at hg; omega
  · constructor
    · rintro ⟨s, hs, h⟩; exact ⟨[s], List.mem_map.2 ⟨s, hs, rfl⟩, Has.one.2 h⟩
    · rintro ⟨S, hS, h⟩; obtain ⟨s, hs, rfl⟩ := List.mem_map.1 hS; exact ⟨s, hs, Has.one.1 h⟩
def some1 (S : List Span) : List (List Span) := if 0 < S.length then [S] else []
theorem some1_mem {S T : List Span} (h : T ∈ some1 S) : T = S ∧ 0 < S.length := by
  unfold some1 at h; split at h
  · exact ⟨List.mem_singleton.1 h, by assumption⟩
  · cases h
theorem some1_has {S : List Span} {m n : Int} : (∃ T ∈ some1 S, Has T m n) ↔ Has S m n := by
  constructor
  · rintro ⟨T, hT, h⟩; rw [(some1_mem hT).1] at h; exact h
  · intro h
    refine ⟨S, ?_, h⟩
    unfold some1; rw [if_pos]; simp
    obtain ⟨s, hs, _⟩ := h
    exact List.length_pos_of_mem hs
theorem two_law {l : List Deed} {d : Deed} {c : Int} (h8 : ∀ x ∈ l, x.spans.length ≤ 8) (hd8 : d.spans.length ≤ 8) (hk : d.kind ≠ 0) (he : errF (sta (lotsK l).1) d = 0) :
    lotsK (l ++ (some1 (norm (takeF (norm d.spans) c)) ++ some1 (norm (takeR (norm d.spans) c))).map (withS d)) = ((doB (lotsK l).1 d).1, (lotsK l).2 ++ (some1 (norm (takeF (norm d.spans) c)) ++ some1 (norm (takeR (norm d.spans) c))).map (fun _ => (0 : Int))) := by
  have hr := err_right he
  have hns := norm_spans hr
  have hnf := normal_nf (right_parts hr).2.2.2.2
  have hv := normal_valid (right_parts hr).2.2.2.2
  obtain ⟨t1, t2, t3, t4⟩ := take_spec (n := c) hnf hv
  rw [hns]
  have hlF : (norm (takeF d.spans c)).length ≤ 8 := Nat.le_trans (norm_len _) (by rw [takeF_len]; exact hd8)
  have hlR : (norm (takeR d.spans c)).length ≤ 8 := Nat.le_trans (norm_len _) (by rw [takeR_len]; exact hd8)
  refine parts_law h8 hd8 hk he (fun S hS => ?_) ?_ fun m n => ?_
  · rcases List.mem_append.1 hS with hS | hS
    · obtain ⟨rfl, h0⟩ := some1_mem hS; exact ⟨h0, hlF, nf_normal (norm_nf _) norm_valid⟩
    · obtain ⟨rfl, h0⟩ := some1_mem hS; exact ⟨h0, hlR, nf_normal (norm_nf _) norm_valid⟩
  · have one : ∀ S, (some1 S).Pairwise (fun S T => ∀ m n, Has S m n → ¬ Has T m n) := fun S => by unfold some1; split <;> simp
    refine List.pairwise_append.2 ⟨one _, one _, fun S hS T hT m n h1 h2 => ?_⟩
    rw [(some1_mem hS).1] at h1
    rw [(some1_mem hT).1] at h2
    exact t4 m n h1 h2
  · constructor
    · intro h
      rcases t3 m n h with h | h
      · obtain ⟨T, hT, h⟩ := some1_has.2 h; exact ⟨T, List.mem_append_left _ hT, h⟩
      · obtain ⟨T, hT, h⟩ := some1_has.2 h; exact ⟨T, List.mem_append_right _ hT, h⟩
    · rintro ⟨T, hT, h⟩
      rcases List.mem_append.1 hT with hT | hT
      · exact t1 m n (some1_has.1 ⟨T, hT, h⟩)
      · exact t2 m n (some1_has.1 ⟨T, hT, h⟩)
end Go.Proofs.Ytjilbkioieicbaa

/- Deeds of any number of spans. -/
namespace Go.Proofs.Ytjilbkioieicbaa
open Go.Vc Rt
set_option linter.unusedVariables false
set_option linter.unusedSimpArgs false
theorem doB_good {L : List Lot} {d : Deed} (h : Good L) : Good (doB L d).1 ∧ (doB L d).2 = errF (sta L) d ∧ sta (doB L d).1 = stepF (sta L) d := by
  have k : Ord (doB L d).1 ∧ Mgd (doB L d).1 := by
    unfold doB
    split
    · rename_i hr
      split
      · rename_i hk
        exact ⟨merge_ord (takeB_ord h.ord hr hk), merge_mgd _⟩
      · exact ⟨merge_ord (moveB_ord h.ord hr).1, merge_mgd _⟩
    · exact ⟨h.ord, h.mgd⟩
  obtain ⟨f1, f2⟩ := do_F (d := d) h.ord h.full
  have e := sta_fun f2
  exact ⟨⟨k.1, k.2, by rw [e]; exact step_full h.full, by rw [e]; exact step_key h.key⟩, f1, e⟩
theorem doB_len {L : List Lot} {d : Deed} (h : Ord L) : (doB L d).1.length ≤ L.length + 4 * d.spans.length := by
  unfold doB
  split
  · rename_i hr
    have hne := right_ne hr
    split
    · have := merge_len (takeB L d).1; have := takeB_len L d; simp only; omega
    · have := merge_len (moveB L d).1; have := (moveB_ord h hr).2; simp only; omega
  · simp only; omega
theorem doOk_many {L : List Lot} {d : Deed} (h : Ord L) (hl : L.length ≤ 100000) (hs : d.spans.length ≤ 10000) : DoOk L d where
  len := by omega
  spans := by omega
  sorted := fun _ => ord_sorted h
  range := fun hr l hl' => by
    have h1 := h.ok l hl'
    have h2 := right_parts hr
    unfold lotOk at h1
    exact ⟨by omega, by omega⟩
  valid := fun hr s hs' => by have := right_spans hr s hs'; omega
  again := fun hr hk h1 h2 k s hks => by
    obtain ⟨m1, m2, m3, m4⟩ := mvRun_spec (d := d) (l := d.spans) (e := 0) h
    have hc := m4 h1
    have key : ∀ x ∈ d.spans, Cov (mvRun d d.spans L 0).1 x.m x.f ∧ Cov (mvRun d d.spans L 0).1 x.m (x.t - 1) ∧ x.f < x.t := fun x hx => by
      have := hc x hx
      rw [m2, m2]
      exact ⟨this.1, this.2, by have := right_spans hr x hx; omega⟩
    obtain ⟨n1, n2, n3⟩ := mv2_spec (d := d) (l := d.spans.take k) m1 (fun x hx => key x (List.mem_of_mem_take hx))
    have hks' := key s (List.mem_of_getElem? hks)
    exact cutB_of n1 ((n2 _ _).2 hks'.1) ((n2 _ _).2 hks'.2.1) hks'.2.2
  out := fun hr hk => by have := (moveB_ord (d := d) h hr).2; omega
end Go.Proofs.Ytjilbkioieicbaa

/- Coins of deeds that pass or spend what their author owns: how many coins each key owns afterwards. -/
namespace Go.Proofs.Ytjilbkioieicbaa
open Go.Vc Rt
set_option linter.unusedVariables false
set_option linter.unusedSimpArgs false
/-! ### Coins of lots of a kind, when a deed changes them -/
theorem mz_upd {q : Sta → Bool} {d : Deed} {s : Span} {a b : Bool} : ∀ {L : List Lot}, (∀ l ∈ L, inSp s l = true → q (stL l) = a ∧ q (movedS d (stL l)) = b) → mz q (L.map (fun l => if inSp s l then movedL d l else l)) = mz q L + (if b then ((L.filter (inSp s)).map sizeL).sum else 0) - (if a then ((L.filter (inSp s)).map sizeL).sum else 0)
  | [], _ => by cases a <;> cases b <;> simp [mz]
  | l :: L, h => by
    rw [List.map_cons, mz_cons, mz_cons, mz_upd (a := a) (b := b) (fun x hx => h x (List.mem_cons_of_mem _ hx))]
    cases hi : inSp s l
    · rw [List.filter_cons_of_neg (by simp [hi])]
      simp only [Bool.false_eq_true, if_false]; omega
    · rw [List.filter_cons_of_pos hi, List.map_cons, List.sum_cons]
      obtain ⟨h1, h2⟩ := h l (List.mem_cons_self ..) hi
      have hz : sizeL (movedL d l) = sizeL l := by unfold sizeL; rw [movedL_s]
      simp only [if_true]
      rw [moved_st, h1, h2, hz]
      cases a <;> cases b <;> simp only [Bool.false_eq_true, if_false, if_true] <;> omega
theorem mv2_mz {q : Sta → Bool} {d : Deed} {a b : Bool} : ∀ {l : List Span} {L : List Lot}, Ord L → (∀ s ∈ l, s.f < s.t ∧ ∀ n, s.f ≤ n → n < s.t → ∃ x, sta L s.m n = some x ∧ q x = a ∧ q (movedS d x) = b) → l.Pairwise gap → mz q (mv2 d l L) = mz q L + (if b then total l else 0) - (if a then total l else 0)
  | [], L, h, _, _ => by cases a <;> cases b <;> simp [mv2, total]
  | s :: l, L, h, hc, hp => by
    obtain ⟨c3, c4⟩ := hc s (List.mem_cons_self ..)
    have hcov : ∀ n, s.f ≤ n → n < s.t → Cov L s.m n := fun n a b => by
      obtain ⟨x, hx, _⟩ := c4 n a b
      exact sta_cov.2 ⟨x, hx⟩
    have hb := cutB_of h (hcov s.f (Int.le_refl _) c3) (hcov (s.t - 1) (by omega) (by omega)) c3
    obtain ⟨f1, f2⟩ := cut_form h hb c3 (movedL d)
    obtain ⟨n1, n2⟩ := cut_nocut (s := s) h
    obtain ⟨p1, p2⟩ := List.pairwise_cons.1 hp
    have hsp : ((cutAt s L).map (fun l => if inSp s l then movedL d l else l)).map (·.s) = (cutAt s L).map (·.s) := by
      rw [List.map_map]
      refine List.map_congr_left fun l _ => ?_
      simp only [Function.comp]
      split
      · exact movedL_s d l
      · rfl
    have hco := cutAt_ord (s := s) h
    have ho := ord_congr hsp.symm hco
    simp only [mv2]
    rw [f2, mv2_mz (a := a) (b := b) ho (fun z hz => ?_) p2, mz_upd (a := a) (b := b) (fun x hx hi => ?_), mz_cut, seg_sum hco n1 n2 (by omega) (fun n a b => cutAt_cov.2 (hcov n a b))]
    · have ht : total (s :: l) = (s.t - s.f) + total l := by simp only [total, List.map_cons, List.sum_cons]
      rw [ht]
      cases a <;> cases b <;> simp only [Bool.false_eq_true, if_false, if_true] <;> omega
    · have hx1 := hco.ok x hx
      rw [inSp_iff] at hi
      unfold lotOk at hx1
      obtain ⟨y, hy, hy'⟩ := c4 x.s.f hi.2.1 (by omega)
      rw [← sta_cut (s := s), ← hi.1, sta_first hco hx] at hy
      cases hy; exact hy'
    · obtain ⟨z1, z2⟩ := hc z (List.mem_cons_of_mem _ hz)
      refine ⟨z1, fun n a b => ?_⟩
      rw [sta_upd n1 n2, sta_cut, if_neg (fun h' => ?_)]
      · exact z2 n a b
      · have := p1 z hz
        unfold gap at this; omega
/-- A deed that is no receipt, and is carried out: how many coins of a kind there are then. -/
theorem move_mz {L : List Lot} {d : Deed} {q : Sta → Bool} {a b : Bool} (h : Good L) (e0 : errF (sta L) d = 0) (hk : d.kind ≠ 0) (hq : ∀ m n x, Has d.spans m n → sta L m n = some x → q x = a ∧ q (movedS d x) = b) :
    mz q (doB L d).1 = mz q L + (if b then count d.spans else 0) - (if a then count d.spans else 0) := by
  have hr := err_right e0
  have hn := (right_parts hr).2.2.2.2
  have hcnt := normal_count hn
  have he : (doB L d).2 = 0 := by rw [(do_F (d := d) h.ord h.full).1]; exact e0
  unfold doB at *
  rw [if_pos hr] at *
  rw [if_neg hk] at *
  simp only at *
  rw [mz_merge]
  have hall := errF_move e0 hk
  obtain ⟨m1, m2, m3, m4⟩ := mvRun_spec (d := d) (l := d.spans) (e := 0) h.ord
  obtain ⟨k1, k2, k3⟩ := mvRun_form (d := d) (l := d.spans) (e := 0) h.ord h.full (fun s hs => by have := right_spans hr s hs; omega) (.inl rfl)
  have hmv : (moveB L d).1 = mv2 d d.spans (mvRun d d.spans L 0).1 := by
    unfold moveB at *
    simp only at *
    split at he
    · cases he
    · split at he
      · rename_i h1 h2; exact (h2 he).elim
      · rename_i h1 h2; rw [if_neg h1, if_neg h2]
  rw [hmv, mv2_mz (a := a) (b := b) m1 (fun s hs => ⟨by have := right_spans hr s hs; omega, fun n a' b' => ?_⟩) (normal_nf hn).ord, mz_run, hcnt]
  obtain ⟨x, hx, hx'⟩ := hall s.m n ⟨s, hs, rfl, a', b'⟩
  exact ⟨x, by rw [k1]; exact hx, hq s.m n x ⟨s, hs, rfl, a', b'⟩ hx⟩
theorem take_mz {L : List Lot} {d : Deed} {q : Sta → Bool} (h : Good L) (e0 : errF (sta L) d = 0) (hk : d.kind = 0) : mz q (doB L d).1 = mz q L + (if q ⟨d.author, d.author, 0, -1⟩ then count d.spans else 0) := by
  have hr := err_right e0
  have hn := (right_parts hr).2.2.2.2
  have hcnt := normal_count hn
  have he : (doB L d).2 = 0 := by rw [(do_F (d := d) h.ord h.full).1]; exact e0
  unfold doB at *
  rw [if_pos hr] at *
  rw [if_pos hk] at *
  obtain ⟨s, hs, hm, hf⟩ := right_take hr hk
  have hc : count d.spans = s.t - s.f := by rw [hcnt, hs]; simp [total]
  rw [hc]
  simp only at *
  rw [mz_merge]
  unfold takeB at *
  split at he
  · cases he
  · rename_i hth
    rw [if_neg hth, hs]
    simp only [List.headD_cons]
    rw [mz_ins]
    rfl
/-! ### The first coins of a key -/
def qOwn (k : Int) (x : Sta) : Bool := isOpen x && decide (x.o = k)
def ownN (L : List Lot) (k : Int) : Int := mz (qOwn k) L
theorem count_owned {L : List Lot} (h : Ord L) (k : Int) : count (ownedL L k) = ownN L k := by
  unfold ownedL ownN
  rw [openL_norm h, openL_total]
  rfl
theorem sum_owned {L : List Lot} (h : Ord L) : count (norm (openL (fun _ => true) L)) = mz isOpen L := by rw [openL_norm h, open_mz]
theorem len_mz {L : List Lot} (h : Ord L) : (L.length : Int) ≤ mz (fun _ => true) L := by
  rw [mz_all]
  have : ∀ {L : List Lot}, (∀ l ∈ L, lotOk l) → (L.length : Int) ≤ (L.map sizeL).sum := by
    intro L
    induction L with
    | nil => intro _; simp
    | cons l L ih =>
      intro h
      have h1 := h l (by simp)
      have := ih fun x hx => h x (by simp [hx])
      unfold lotOk at h1
      simp only [List.length_cons, List.map_cons, List.sum_cons]
      have e : sizeL l = l.s.t - l.s.f := rfl
      omega
  exact this h.ok
theorem takeF_total : ∀ {a : List Span} {n : Int}, (∀ s ∈ a, s.f ≤ s.t) → 0 ≤ n → n ≤ total a → total (takeF a n) = n
  | [], n, _, h0, h1 => by simp [total] at h1; simp [takeF, total]; omega
  | s :: a, n, h, h0, h1 => by
    have hs := h s (by simp)
    have ht : total (s :: a) = (s.t - s.f) + total a := by simp only [total, List.map_cons, List.sum_cons]
    have hk : takeK n s = min n (s.t - s.f) := by unfold takeK; omega
    have ha : 0 ≤ total a := by
      have : ∀ {a : List Span}, (∀ s ∈ a, s.f ≤ s.t) → 0 ≤ total a := by
        intro a
        induction a with
        | nil => intro _; simp [total]
        | cons x a ih =>
          intro h
          have := ih fun y hy => h y (by simp [hy])
          have hx := h x (by simp)
          simp only [total, List.map_cons, List.sum_cons] at this ⊢; omega
      exact this fun x hx => h x (by simp [hx])
    have ih := takeF_total (a := a) (n := max n 0 - takeK n s) (fun x hx => h x (by simp [hx])) (by omega) (by omega)
    simp only [takeF, total, List.map_cons, List.sum_cons] at ih ⊢
    rw [ih]; omega
theorem total_filter : ∀ {l : List Span}, (∀ s ∈ l, valid s = false → s.t = s.f) → total (l.filter valid) = total l
  | [], _ => rfl
  | s :: l, h => by
    have ih := total_filter (l := l) fun x hx => h x (by simp [hx])
    have ht : total (s :: l) = (s.t - s.f) + total l := by simp only [total, List.map_cons, List.sum_cons]
    cases hv : valid s
    · rw [List.filter_cons_of_neg (by simp [hv]), ih, ht, h s (by simp) hv]; omega
    · rw [List.filter_cons_of_pos hv]
      have : total (s :: l.filter valid) = (s.t - s.f) + total (l.filter valid) := by simp only [total, List.map_cons, List.sum_cons]
      rw [this, ih, ht]
theorem takeF_in : ∀ {a : List Span} {n : Int} {x : Span}, x ∈ takeF a n → ∃ s ∈ a, ∃ k, x = ⟨s.m, s.f, s.f + takeK k s⟩
  | [], n, x, h => by simp [takeF] at h
  | s :: a, n, x, h => by
    simp only [takeF, List.mem_cons] at h
    rcases h with rfl | h
    · exact ⟨s, by simp, n, rfl⟩
    · obtain ⟨y, hy, k, e⟩ := takeF_in h
      exact ⟨y, by simp [hy], k, e⟩
theorem takeF_befS : ∀ {a : List Span} {n : Int}, NF a → (takeF a n).Pairwise befS
  | [], n, _ => by simp [takeF]
  | s :: a, n, h => by
    simp only [takeF]
    refine List.pairwise_cons.2 ⟨fun x hx => ?_, takeF_befS h.tail⟩
    obtain ⟨y, hy, k, e⟩ := takeF_in hx
    have hg := (List.pairwise_cons.1 h.ord).1 y hy
    have h1 := h.ne s (by simp)
    subst e
    have hk : takeK n s ≤ s.t - s.f := by unfold takeK; omega
    unfold gap at hg
    unfold befS
    simp only
    omega
theorem norm_filter (l : List Span) : norm (l.filter valid) = norm l := by unfold norm; rw [List.filter_filter]; simp
/-- The first n coins. -/
def firstC (a : List Span) (n : Int) : List Span := norm (takeF a n)
theorem first_spec {a : List Span} {n : Int} (h : NF a) (hv : ∀ s ∈ a, valid s = true) (h0 : 0 ≤ n) (h1 : n ≤ total a) :
    normal (firstC a n) = true ∧ count (firstC a n) = n ∧ (∀ m c, Has (firstC a n) m c → Has a m c) ∧ (firstC a n).length ≤ a.length := by
  have hv' := fun s hs => valid_iff.1 (hv s hs)
  have ht : total (takeF a n) = n := takeF_total (fun s hs => by have := hv' s hs; omega) h0 h1
  have hinv : ∀ x ∈ takeF a n, valid x = false → x.t = x.f := by
    intro x hx hx'
    obtain ⟨s, hs, k, e⟩ := takeF_in hx
    have := hv' s hs
    subst e
    have hk : 0 ≤ takeK k s ∧ takeK k s ≤ s.t - s.f := by unfold takeK; omega
    by_cases h : takeK k s = 0
    · simp only; omega
    · have : valid ⟨s.m, s.f, s.f + takeK k s⟩ = true := valid_iff.2 (by simp only; omega)
      rw [this] at hx'; cases hx'
  refine ⟨nf_normal (norm_nf _) norm_valid, ?_, (take_spec h hv).1, ?_⟩
  · unfold firstC
    rw [count_norm, ← norm_filter, norm_total (fun s hs => (List.mem_filter.1 hs).2) ((takeF_befS h).sublist List.filter_sublist), total_filter hinv, ht]
  · have := norm_len (takeF a n)
    rw [takeF_len] at this
    exact this
end Go.Proofs.Ytjilbkioieicbaa

/- Coins of a plan: the lots hold what the phones have. -/
namespace Pl
theorem sumI_put {i x : Int} : ∀ {l : List Int}, 0 ≤ i → i < l.length → sumI (put' l i x) = sumI l - at' l i + x
  | [], h0, h1 => by simp at h1; omega
  | y :: l, h0, h1 => by
    by_cases h : i = 0
    · subst h; simp [put', at', sumI]; omega
    · have ih := sumI_put (i := i - 1) (x := x) (l := l) (by omega) (by simp at h1; omega)
      have e : i.toNat = (i - 1).toNat + 1 := by omega
      unfold put' at' at *
      rw [e]
      simp only [List.set_cons_succ, sumI, List.getElem?_cons_succ]
      omega
theorem put_same {l : List Int} {i : Int} (h0 : 0 ≤ i) (h1 : i < l.length) : put' l i (at' l i - 0) = l := by
  unfold put' at'
  have h : i.toNat < l.length := by omega
  rw [List.getElem?_eq_getElem h]
  simp only [Option.getD_some, Int.sub_zero]
  exact List.set_getElem_self h
theorem upto_is {M : List Meet} (hs : sortedB M = true) {d : Int} {k : Nat} (hk : k ≤ M.length) : upto M d = k ↔ (∀ m, M[k]? = some m → d < m.day) ∧ (∀ m, 0 < k → M[k - 1]? = some m → m.day ≤ d) := by
  have hu := upto_le M d
  constructor
  · intro e
    refine ⟨fun m hm => ?_, fun m h0 hm => ?_⟩
    · have := upto_sorted hs (d := d) hm; omega
    · have := upto_sorted hs (d := d) hm; omega
  · rintro ⟨h1, h2⟩
    have a : upto M d ≤ k := by
      rcases Nat.lt_or_ge k M.length with h | h
      · have hm : M[k]? = some M[k] := List.getElem?_eq_getElem h
        have := upto_sorted hs (d := d) hm
        have := h1 _ hm
        omega
      · omega
    have b : k ≤ upto M d := by
      rcases Nat.eq_zero_or_pos k with h | h
      · omega
      · have hm : M[k - 1]? = some (M[k - 1]'(by omega)) := List.getElem?_eq_getElem (by omega)
        have := upto_sorted hs (d := d) hm
        have := h2 _ h hm
        omega
    omega
end Pl
namespace Go.Proofs.Ytjilbkioieicbaa
open Go.Vc Rt
set_option linter.unusedVariables false
set_option linter.unusedSimpArgs false
structure PC (L : List Lot) (now : List Int) (p : Nat) : Prop where
  good : Good L
  plain : ∀ m n x, sta L m n = some x → x.h = x.o
  own : ∀ q : Int, 0 ≤ q → q < p → ownN L q = Pl.at' now q
  sum : mz isOpen L = Pl.sumI now
  all : mz (fun _ => true) L ≤ 6000
def giveD (L : List Lot) (mark kind a b n : Int) : Deed := ⟨mark, kind, a, b, 0, 0, firstC (ownedL L a) n⟩
section
variable {L : List Lot} {now : List Int} {p : Nat} {mark kind a b n : Int}
theorem pc_nil (p : Nat) (now : List Int) (h : ∀ q : Int, 0 ≤ q → q < p → Pl.at' now q = 0) (hs : Pl.sumI now = 0) : PC [] now p where
  good := good_nil
  plain := fun m n x h => by simp [sta_nil] at h
  own := fun q h0 h1 => by rw [h q h0 h1]; rfl
  sum := by rw [hs]; rfl
  all := by rw [mz_nil]; omega
theorem PC.len (h : PC L now p) : L.length ≤ 6000 := by have := len_mz h.good.ord; have := h.all; omega
theorem own_has (h : PC L now p) {m c : Int} (hh : Has (ownedL L a) m c) : ∃ x, sta L m c = some x ∧ x.p = -1 ∧ x.o = a ∧ x.h = a := by
  obtain ⟨x, h1, h2, h3⟩ := (has_owned h.good.ord).1 hh
  exact ⟨x, h1, h2, h3, (h.plain m c x h1).trans h3⟩
theorem give_spec (h : PC L now p) (hp : p ≤ 200) (ha : 0 ≤ a ∧ a < p) (h0 : 1 ≤ n) (h1 : n ≤ Pl.at' now a) (hm : 0 ≤ mark ∧ mark ≤ 1073741824) (hk : kind = 3 ∨ (kind = 1 ∧ isKey b = true ∧ b ≠ a)) :
    errF (sta L) (giveD L mark kind a b n) = 0 ∧ (∀ m c x, Has (giveD L mark kind a b n).spans m c → sta L m c = some x → x.p = -1 ∧ x.o = a ∧ x.h = a) ∧ count (giveD L mark kind a b n).spans = n ∧ (giveD L mark kind a b n).spans.length ≤ 6000 := by
  have ho := h.own a ha.1 ha.2
  have ht : total (ownedL L a) = ownN L a := by rw [← count_owned h.good.ord]; unfold ownedL; rw [count_norm]
  obtain ⟨f1, f2, f3, f4⟩ := first_spec (a := ownedL L a) (n := n) (norm_nf _) norm_valid (by omega) (by omega)
  have key : ∀ m c x, Has (giveD L mark kind a b n).spans m c → sta L m c = some x → x.p = -1 ∧ x.o = a ∧ x.h = a := fun m c x hh hx => by
    obtain ⟨y, h1, h2⟩ := own_has h (f3 m c hh)
    rw [hx] at h1
    cases h1
    exact h2
  have hne : 0 < (giveD L mark kind a b n).spans.length := by
    rcases Nat.eq_zero_or_pos (giveD L mark kind a b n).spans.length with hz | hz
    · have e : firstC (ownedL L a) n = [] := List.eq_nil_of_length_eq_zero hz
      rw [e] at f2
      have : count [] = 0 := rfl
      omega
    · exact hz
  have hka : isKey a = true := by unfold isKey; simp; omega
  have hr : right (giveD L mark kind a b n) = true := by
    rcases hk with hk | ⟨hk, hb, hba⟩
    · exact right_mk3 hm hka hne f1 hk
    · exact right_mk1 hm hka hne f1 hk hb hba
  refine ⟨err_0 hr (by show kind ≠ 0; omega) fun m c hh => ?_, key, f2, ?_⟩
  · obtain ⟨x, e1, e2, e3, e4⟩ := own_has h (f3 m c hh)
    refine ⟨x, e1, ?_⟩
    have e3' : x.o = (giveD L mark kind a b n).author := e3
    have e4' : x.h = (giveD L mark kind a b n).author := e4
    unfold mayS
    rw [if_neg (fun h => h e2), if_neg (fun h => h.1 e3'), if_neg (fun h => h e4'), if_neg (fun h => h.1 e3')]
  · have := ownedL_len L a
    have := h.len
    show (firstC (ownedL L a) n).length ≤ 6000
    omega
theorem pc_step (h : PC L now p) (he : errF (sta L) (giveD L mark kind a b n) = 0) (hk : kind = 3 ∨ kind = 1) : ∀ m c x, sta (doB L (giveD L mark kind a b n)).1 m c = some x → x.h = x.o := by
  obtain ⟨_, _, e⟩ := doB_good (d := giveD L mark kind a b n) h.good
  rw [e]
  intro m c x hx
  by_cases hh : Has (giveD L mark kind a b n).spans m c
  · rcases coin_of he hh with ⟨k0, _, _⟩ | ⟨_, y, hy, _, _, _, e5⟩
    · have : kind = 0 := k0
      omega
    · rw [e5] at hx
      cases hx
      have hpl := h.plain m c y hy
      rcases hk with hk | hk
      · rw [movedS_3 (show (giveD L mark kind a b n).kind = 3 from hk)]; exact hpl
      · rw [movedS_1 (show (giveD L mark kind a b n).kind = 1 from hk)]
  · rw [coin_not hh] at hx; exact h.plain m c x hx
theorem pc_spend (h : PC L now p) (hl : now.length = p) (hp : p ≤ 200) (ha : 0 ≤ a ∧ a < p) (h0 : 1 ≤ n) (h1 : n ≤ Pl.at' now a) (hm : 0 ≤ mark ∧ mark ≤ 1073741824) :
    (doB L (giveD L mark 3 a b n)).2 = 0 ∧ PC (doB L (giveD L mark 3 a b n)).1 (Pl.put' now a (Pl.at' now a - n)) p ∧ DoOk L (giveD L mark 3 a b n) := by
  obtain ⟨e0, e1, e2, e3⟩ := give_spec (b := b) h hp ha h0 h1 hm (.inl rfl)
  obtain ⟨g1, g2, g3⟩ := doB_good (d := giveD L mark 3 a b n) h.good
  have hlen := h.len
  refine ⟨by rw [g2, e0], ⟨g1, pc_step h e0 (.inl rfl), fun q q0 q1 => ?_, ?_, ?_⟩, doOk_many h.good.ord (by omega) (by omega)⟩
  · have hq : ∀ m c x, Has (giveD L mark 3 a b n).spans m c → sta L m c = some x → qOwn q x = decide (a = q) ∧ qOwn q (movedS (giveD L mark 3 a b n) x) = false := fun m c x hh hx => by
      obtain ⟨x1, x2, x3⟩ := e1 m c x hh hx
      rw [movedS_3 rfl]
      unfold qOwn isOpen
      rw [x1, x2]
      refine ⟨by simp, ?_⟩
      have : ¬ mark = -1 := by omega
      simp [giveD, this]
    have := move_mz (q := qOwn q) h.good e0 (by show (3 : Int) ≠ 0; omega) hq
    unfold ownN
    rw [this, Pl.at'_put' _ q ha.1 (by omega) q0, e2]
    have := h.own q q0 q1
    unfold ownN at this
    rw [this]
    by_cases hqa : a = q
    · subst hqa; simp
    · rw [if_neg (show ¬ q = a from fun e => hqa e.symm)]; simp [hqa]
  · have hq : ∀ m c x, Has (giveD L mark 3 a b n).spans m c → sta L m c = some x → isOpen x = true ∧ isOpen (movedS (giveD L mark 3 a b n) x) = false := fun m c x hh hx => by
      obtain ⟨x1, x2, x3⟩ := e1 m c x hh hx
      rw [movedS_3 rfl]
      unfold isOpen
      rw [x1]
      refine ⟨by simp, ?_⟩
      have : ¬ mark = -1 := by omega
      simp [giveD, this]
    rw [move_mz h.good e0 (by show (3 : Int) ≠ 0; omega) hq, e2, h.sum, Pl.sumI_put ha.1 (by omega)]
    simp; omega
  · rw [move_mz (a := true) (b := true) h.good e0 (by show (3 : Int) ≠ 0; omega) (fun _ _ _ _ _ => ⟨rfl, rfl⟩)]
    have := h.all
    omega
theorem pc_pass (h : PC L now p) (hl : now.length = p) (hp : p ≤ 200) (ha : 0 ≤ a ∧ a < p) (hb : 0 ≤ b ∧ b < p) (hab : b ≠ a) (h0 : 1 ≤ n) (h1 : n ≤ Pl.at' now a) (hm : 0 ≤ mark ∧ mark ≤ 1073741824) :
    (doB L (giveD L mark 1 a b n)).2 = 0 ∧ PC (doB L (giveD L mark 1 a b n)).1 (Pl.put' (Pl.put' now a (Pl.at' now a - n)) b (Pl.at' (Pl.put' now a (Pl.at' now a - n)) b + n)) p ∧ DoOk L (giveD L mark 1 a b n) := by
  have hkb : isKey b = true := by unfold isKey; simp; omega
  obtain ⟨e0, e1, e2, e3⟩ := give_spec (b := b) h hp ha h0 h1 hm (.inr ⟨rfl, hkb, hab⟩)
  obtain ⟨g1, g2, g3⟩ := doB_good (d := giveD L mark 1 a b n) h.good
  have hlen := h.len
  refine ⟨by rw [g2, e0], ⟨g1, pc_step h e0 (.inr rfl), fun q q0 q1 => ?_, ?_, ?_⟩, doOk_many h.good.ord (by omega) (by omega)⟩
  · have hq : ∀ m c x, Has (giveD L mark 1 a b n).spans m c → sta L m c = some x → qOwn q x = decide (a = q) ∧ qOwn q (movedS (giveD L mark 1 a b n) x) = decide (b = q) := fun m c x hh hx => by
      obtain ⟨x1, x2, x3⟩ := e1 m c x hh hx
      rw [movedS_1 rfl]
      unfold qOwn isOpen
      rw [x1, x2]
      exact ⟨by simp, rfl⟩
    have := move_mz (q := qOwn q) h.good e0 (by show (1 : Int) ≠ 0; omega) hq
    unfold ownN
    rw [this, Pl.at'_put' _ q hb.1 (by rw [Pl.put'_len]; omega) q0, Pl.at'_put' _ q ha.1 (by omega) q0, Pl.at'_put' _ b ha.1 (by omega) hb.1, e2]
    have hown := h.own q q0 q1
    unfold ownN at hown
    rw [hown]
    rw [if_neg hab]
    by_cases hqa : a = q
    · subst hqa
      rw [if_neg (show ¬ a = b from fun e => hab e.symm)]
      simp [hab]
    · by_cases hqb : b = q
      · subst hqb
        simp [hqa]
      · rw [if_neg (show ¬ q = b from fun e => hqb e.symm), if_neg (show ¬ q = a from fun e => hqa e.symm)]
        simp [hqa, hqb]
  · have hq : ∀ m c x, Has (giveD L mark 1 a b n).spans m c → sta L m c = some x → isOpen x = true ∧ isOpen (movedS (giveD L mark 1 a b n) x) = true := fun m c x hh hx => by
      obtain ⟨x1, x2, x3⟩ := e1 m c x hh hx
      rw [movedS_1 rfl]
      unfold isOpen
      rw [x1]
      exact ⟨by simp, by simp⟩
    rw [move_mz h.good e0 (by show (1 : Int) ≠ 0; omega) hq, e2, h.sum, Pl.sumI_put hb.1 (by rw [Pl.put'_len]; omega), Pl.sumI_put ha.1 (by omega)]
    simp; omega
  · rw [move_mz (a := true) (b := true) h.good e0 (by show (1 : Int) ≠ 0; omega) (fun _ _ _ _ _ => ⟨rfl, rfl⟩)]
    have := h.all
    omega
end
/-! ### The receipts -/
structure PT (L : List Lot) (S : List Int) (i : Nat) : Prop where
  pc : PC L (S.take i) S.length
  all : mz (fun _ => true) L = Pl.sumI (S.take i)
  marks : ∀ m n x, sta L m n = some x → m < i
def recD (i : Nat) (s : Int) : Deed := ⟨i, 0, i, 0, 0, 0, [⟨i, 0, s⟩]⟩
theorem sumI_le {S : List Int} {c : Int} (h : ∀ x ∈ S, x ≤ c) : Pl.sumI S ≤ c * S.length := by
  induction S with
  | nil => simp [Pl.sumI]
  | cons x S ih =>
    have h1 := h x (by simp)
    have := ih fun y hy => h y (by simp [hy])
    simp only [Pl.sumI, List.length_cons]
    have : c * ((S.length : Nat) + 1 : Nat) = c * S.length + c := by rw [Int.natCast_add, Int.mul_add]; simp
    omega
theorem pt_nil (S : List Int) : PT [] S 0 := ⟨pc_nil _ _ (fun q _ _ => by simp [Pl.at']) (by simp [Pl.sumI]), by simp [mz_nil, Pl.sumI], fun m n x h => by simp [sta_nil] at h⟩
theorem at_take_lt {S : List Int} {i : Nat} {q : Int} (h0 : 0 ≤ q) (h : q < i) : Pl.at' (S.take i) q = Pl.at' S q := by
  unfold Pl.at'; rw [List.getElem?_take_of_lt (by omega)]
theorem at_take_ge {S : List Int} {i : Nat} {q : Int} (h : (i : Int) ≤ q) : Pl.at' (S.take i) q = 0 := by
  unfold Pl.at'; rw [List.getElem?_eq_none (by rw [List.length_take]; omega)]; rfl
theorem pt_zero {L : List Lot} {S : List Int} {i : Nat} (h : PT L S i) (hs : S[i]? = some 0) : PT L S (i + 1) := by
  have e : S.take (i + 1) = S.take i ++ [0] := by rw [List.take_add_one, hs]; rfl
  have es : Pl.sumI (S.take (i + 1)) = Pl.sumI (S.take i) := by rw [e, Pl.sumI_append]; simp [Pl.sumI]
  refine ⟨⟨h.pc.good, h.pc.plain, fun q q0 q1 => ?_, by rw [es]; exact h.pc.sum, h.pc.all⟩, by rw [es]; exact h.all, fun m n x hx => by have := h.marks m n x hx; omega⟩
  rw [h.pc.own q q0 q1]
  by_cases hq : q < i
  · rw [at_take_lt q0 hq, at_take_lt q0 (by omega)]
  · rw [at_take_ge (by omega)]
    by_cases hq' : q < ((i + 1 : Nat) : Int)
    · rw [at_take_lt q0 hq']
      unfold Pl.at'
      rw [show q.toNat = i by omega, hs]; rfl
    · rw [at_take_ge (by omega)]
theorem pt_take {L : List Lot} {S : List Int} {i : Nat} {s : Int} (h : PT L S i) (hs : S[i]? = some s) (h0 : 0 < s) (h1 : ∀ x ∈ S.take (i + 1), x ≤ 1000) (hp : S.length ≤ 6) :
    (doB L (recD i s)).2 = 0 ∧ PT (doB L (recD i s)).1 S (i + 1) ∧ DoOk L (recD i s) := by
  have hi := (List.getElem?_eq_some_iff.1 hs).1
  have e : S.take (i + 1) = S.take i ++ [s] := by rw [List.take_add_one, hs]; rfl
  have es : Pl.sumI (S.take (i + 1)) = Pl.sumI (S.take i) + s := by rw [e, Pl.sumI_append]; simp [Pl.sumI]
  have hs1 := h1 s (by rw [e]; simp)
  have hv : valid (⟨i, 0, s⟩ : Span) = true := valid_iff.2 (by simp only; omega)
  have hr : right (recD i s) = true := by
    unfold right
    rw [if_neg (right_base (d := recD i s) ⟨by show (0 : Int) ≤ i; omega, by show (i : Int) ≤ _; omega⟩ (by show isKey i = true; unfold isKey; simp; omega) (by simp [recD]) (normal_one hv)), if_pos (by rfl)]
    simp [recD]
  have hmk := h.marks
  have he : errF (sta L) (recD i s) = 0 := by
    unfold errF
    rw [if_neg (by rw [hr]; simp), if_pos (show (recD i s).kind = 0 from rfl), if_neg]
    rintro ⟨n, x, hx⟩
    have : ((i : Nat) : Int) < i := hmk i n x hx
    omega
  obtain ⟨g1, g2, g3⟩ := doB_good (d := recD i s) h.pc.good
  have hlen := h.pc.len
  have hc : count (recD i s).spans = s := by
    rw [normal_count (l := (recD i s).spans) (normal_one hv)]; simp [recD, total]
  have hall : mz (fun _ => true) (doB L (recD i s)).1 = Pl.sumI (S.take (i + 1)) := by
    rw [take_mz (q := fun _ => true) h.pc.good he rfl, hc, h.all, es]; rfl
  have hsum := sumI_le h1
  have hl1 : ((S.take (i + 1)).length : Int) ≤ 6 := by rw [List.length_take]; omega
  refine ⟨by rw [g2, he], ⟨⟨g1, fun m c x hx => ?_, fun q q0 q1 => ?_, ?_, by rw [hall]; omega⟩, hall, fun m c x hx => ?_⟩, doOk_many h.pc.good.ord (by omega) (by simp [recD])⟩
  · rw [g3] at hx
    by_cases hh : Has (recD i s).spans m c
    · rcases coin_of he hh with ⟨_, _, e5⟩ | ⟨k0, _⟩
      · rw [e5] at hx; cases hx; rfl
      · exact (k0 rfl).elim
    · rw [coin_not hh] at hx; exact h.pc.plain m c x hx
  · unfold ownN
    rw [take_mz (q := qOwn q) h.pc.good he rfl, hc]
    have := h.pc.own q q0 q1
    unfold ownN at this
    rw [this]
    unfold qOwn isOpen
    by_cases hq : q < i
    · rw [at_take_lt q0 hq, at_take_lt q0 (by omega)]
      have : ¬ ((i : Int) = q) := by omega
      simp [recD, this]
    · rw [at_take_ge (by omega)]
      by_cases hq' : q = i
      · subst hq'
        rw [at_take_lt (by omega) (by omega)]
        unfold Pl.at'
        rw [Int.toNat_natCast, hs]
        simp [recD]
      · rw [at_take_ge (by omega)]
        have : ¬ ((i : Int) = q) := fun e => hq' e.symm
        simp [recD, this]
  · rw [take_mz (q := isOpen) h.pc.good he rfl, hc, h.pc.sum, es]; rfl
  · rw [g3] at hx
    by_cases hh : Has (recD i s).spans m c
    · have : m = i := by
        obtain ⟨y, hy, hym, _⟩ := hh
        simp [recD] at hy
        subst hy; exact hym.symm
      omega
    · rw [coin_not hh] at hx
      have := h.marks m c x hx
      omega
end Go.Proofs.Ytjilbkioieicbaa

/- The law PlanCoins: its call. -/
namespace Go.Proofs.Ytjilbkioieicbaa
open Go.Vc Rt
set_option linter.unusedVariables false
set_option linter.unusedSimpArgs false
theorem few3_ok {a b c : Nat} (h : few3 a b c = true) : a ≤ 6 ∧ b ≤ 8 ∧ c ≤ 8 := by
  simp only [few3, Bool.and_eq_true, decide_eq_true_eq] at h; omega
theorem sumI_geq {l : List Int} (h : ∀ x ∈ l, 0 ≤ x) : ∀ x ∈ l, x ≤ Pl.sumI l := by
  induction l with
  | nil => intro x hx; cases hx
  | cons y l ih =>
    intro x hx
    have h1 := Pl.sumI_nonneg (S := l) fun z hz => h z (by simp [hz])
    have h2 := h y (by simp)
    simp only [Pl.sumI]
    rcases List.mem_cons.1 hx with rfl | hx
    · omega
    · have := ih (fun z hz => h z (by simp [hz])) x hx; omega
theorem deed30_c (L : List Lot) (mark kind a b n : Int) (v : Value) (w : World) (h : SlOf loT [] w v L) (hN : L.length ≤ 100000) (hn : inR n) :
    AnsG Try.prog 52 [v, vI mark, vI kind, vI a, vI b, vI n] [.i mark, .i kind, .i a, .i b, .i 0, .i 0] [] 56 3 ((firstC (ownedL L a) n).map encS) w := by
  have hol := ownedL_len L a
  refine calls_plainB [.x v, .i mark, .i kind, .i a, .i b, .i n] Try.func52 rfl rfl (Nat.le_of_ble_eq_true rfl) rfl fun B hB => ?_
  repeat refine At.seq ?_
  refine At.region tab_ok ?_
  conv => whnf
  intro b0
  conv => whnf
  repeat refine At.seq ?_
  refine At.region tab_ok ?_
  conv => whnf
  refine ansR_call b28 (rd1 (nopS _)) (fun w' hw => owned_c L a [] v w' (h.fr hw.fr) (by omega)) ?_
  intro v1
  conv => whnf
  refine ansR_call b39 (rd2 (nopS _) (nopS _)) (fun w' hw => takeS_c (ownedL L a) n [] v1 w' (slS _ (hw.row (id := 1) rfl) (by omega)) (by omega) hn) ?_
  intro v2
  conv => whnf
  intro v3
  conv => whnf
  rw [norm_owned]
  repeat refine At.seq ?_
  refine At.region tab_ok ?_
  conv => whnf
  repeat refine At.seq ?_
  refine At.ret (At.doneB tab_ok hB _ rfl fun w' hw => ⟨v2, rfl, hw.row (id := 2) rfl, fun b hb => (hw.fresh (id := 2) rfl b hb).elim (fun h => (by cases h)) (fun h => h), hw.fr⟩)
/-- The coins of a plan: how far it is. -/
structure At30 (D : List Pl.Due) (r : List Int) (K k : Nat) (P Pk : List Pl.Pass) (now : List Int) (L : List Lot) (p : Nat) : Prop where
  pc : PC L now p
  len : now.length = p
  run : Pl.runK D k (K + 1 - k) Pk now = some r
theorem coins_c (St : List Int) (M : List Pl.Meet) (W : List Pl.Want) (v1 v2 v3 : Value) (w : World) (h1 : SlOf intT [] w v1 St) (h2 : SlOf meT [] w v2 M) (h3 : SlOf waT [] w v3 W) :
    Ans Try.prog 16 [v1, v2, v3] (.b true) w := by
  have l1 := h1.len
  have l2 := h2.len
  have l3 := h3.len
  refine calls_plainB [.x v1, .x v2, .x v3] Try.func16 rfl rfl (Nat.le_of_ble_eq_true rfl) rfl fun B hB => ?_
  repeat refine At.seq ?_
  refine At.region tab_ok ?_
  conv => whnf
  repeat refine At.seq ?_
  refine At.region tab_ok ?_
  conv => whnf
  refine ans_call b17 rfl (fun w' hw => small30_c w') ?_
  conv => whnf
  repeat refine At.seq ?_
  refine At.regionG tab_ok ?_
  conv => whnf
  refine ans_call b51 rfl (fun w' hw => few3_c St M W v1 v2 v3 w' (h1.fr hw.fr) (h2.fr hw.fr) (h3.fr hw.fr)) ?_
  conv => whnf
  cases hfew : few3 St.length M.length W.length
  · conv => whnf
    repeat refine At.seq ?_
    refine At.cond (t := true) rfl (fun hq => ?_) (fun hq => by cases hq)
    repeat refine At.seq ?_
    refine At.region tab_ok ?_
    conv => whnf
    repeat refine At.seq ?_
    refine At.ret (At.doneB tab_ok hB _ rfl fun w' hw => ⟨rfl, hw.fr⟩)
  obtain ⟨f1, f2, f3⟩ := few3_ok hfew
  conv => whnf
  refine ans_call b19 rfl (fun w' hw => right_pc St M W [] v1 v2 v3 w' (h1.fr hw.fr) (h2.fr hw.fr) (h3.fr hw.fr)) ?_
  conv => whnf
  cases hR : Pl.rightB St M W
  · conv => whnf
    repeat refine At.seq ?_
    refine At.cond (t := true) rfl (fun hq => ?_) (fun hq => by cases hq)
    repeat refine At.seq ?_
    refine At.region tab_ok ?_
    conv => whnf
    repeat refine At.seq ?_
    refine At.ret (At.doneB tab_ok hB _ rfl fun w' hw => ⟨rfl, hw.fr⟩)
  conv => whnf
  repeat refine At.seq ?_
  refine At.cond (t := false) rfl (fun hq => by cases hq) (fun hq => At.skip ?_)
  have R := Pl.rightB_iff.1 hR
  repeat refine At.seq ?_
  refine At.region tab_ok ?_
  conv => whnf
  refine ansE_call b20 planG_rd (fun w' hw => plan_e St M W [] v1 v2 v3 w' (h1.fr hw.fr) (h2.fr hw.fr) (h3.fr hw.fr)) ?_
  rintro rds ⟨P, X, c0, er0, hp0, rfl⟩
  obtain ⟨hch, rfl⟩ := plan_ok1 hp0 hR
  have hm0 := check_met hch
  obtain ⟨r, hr⟩ := Pl.check_run hch
  conv => whnf
  intro vp
  conv => whnf
  intro vx
  conv => whnf
  intro vc
  conv => whnf
  have hP : P.length ≤ 1000000 := by
    obtain ⟨_, hf, _⟩ := Pl.runAll_ok hr
    simp only [Pl.formedB, Bool.and_eq_true] at hf
    have key : ∀ (Q : List Pl.Pass) (last : Int), Pl.formP M last Q = true → -1 ≤ last → last < M.length → (Q.length : Int) ≤ M.length - last := by
      intro Q
      induction Q with
      | nil => intro last _ h0 h1; simp; omega
      | cons x Q ih =>
        intro last h h0 h1
        simp only [Pl.formP, Bool.and_eq_true, decide_eq_true_eq] at h
        have := ih x.meet h.2 (by omega) (by omega)
        simp only [List.length_cons]; omega
    have := key P (-1) hf.2 (by omega) (by omega)
    omega
  repeat refine At.seq ?_
  refine At.region tab_ok ?_
  conv => whnf
  refine ansR_call b22 (rdIP _ _) (fun w' hw => run_c St M W P X [] v1 v2 v3 vp vx w' (h1.fr hw.fr) (h2.fr hw.fr) (h3.fr hw.fr) (slP _ (hw.row (id := 0) rfl) hP) (slN _ (hw.row (id := 1) rfl) (by rw [hm0.1]; omega)) (by omega)) ?_
  intro vl
  conv => whnf
  rw [hr]
  obtain ⟨hrl, hrs, hrn⟩ := Pl.run_left hr
  repeat refine At.seq ?_
  refine At.regionG tab_ok ?_
  conv => whnf
  refine ⟨rfl, ?_⟩
  conv => whnf
  refine ⟨h1.sl, ?_⟩
  conv => whnf
  rw [decide_eq_true (show (((r.map encI).length : Nat) : Int) = slen v1 by rw [List.length_map]; omega)]
  conv => whnf
  refine ⟨rfl, ?_⟩
  conv => whnf
  refine ⟨h3.sl, ?_⟩
  conv => whnf
  rw [decide_eq_true (show (((X.map encI).length : Nat) : Int) = slen v3 by rw [List.length_map]; omega)]
  conv => whnf
  repeat refine At.seq ?_
  refine At.cond (t := false) rfl (fun hq => by cases hq) (fun hq => At.skip ?_)
  repeat refine At.seq ?_
  refine At.region tab_ok ?_
  conv => whnf
  repeat refine At.seq ?_
  refine At.region tab_ok ?_
  conv => whnf
  repeat refine At.seq ?_
  refine At.region tab_ok ?_
  conv => whnf
  repeat refine At.seq ?_
  refine At.block ?_
  refine At.loopH (fun p : Nat × Value × List Lot => { N := Try.f16.ntmps, sl := [(0, some (.x v1)), (1, some (.x v2)), (2, some (.x v3)), (7, some (.b true)), (8, some (.s (.c (.o 0 vp)))), (9, some (.s (.c (.o 1 vx)))), (12, some (.s (.c (.o 3 vl)))), (14, some (.s (.c (.o 4 p.2.1)))), (15, some (.i 0)), (16, some (.i p.1))], gl := [], hp := [(4, .row p.2.1 58 7 (p.2.2.map encL)), (3, .row vl 3 1 (r.map encI)), (1, .row vx 3 1 (X.map encI)), (0, .row vp 38 4 (P.map encP))], S := [], ws := w }) (fun p : Nat × Value × List Lot => p.1 ≤ St.length ∧ PT p.2.2 St p.1 ∧ ∀ x ∈ St.take p.1, x ≤ 1000) (fun p : Nat × Value × List Lot => St.length - p.1)
    (fun w' hw => ⟨(0, nilV, []), ⟨Nat.zero_le _, pt_nil St, by simp⟩, Le.of rfl rfl ⟨rfl, rfl, rfl, rfl, rfl, rfl, rfl, rfl, rfl, rfl, trivial⟩, Holds.nilK hw [3,1,0] rfl rfl rfl, ⟨⟨_, _, _, rfl⟩, ⟨_, _, _, rfl⟩, ⟨_, _, _, rfl⟩, ⟨_, _, _, rfl⟩, trivial⟩, ⟨(nopL _).okH, (nopI _).okH, (nopI _).okH, (nopP _).okH, trivial⟩⟩) ?_
  rintro ⟨i, vL, L⟩ ⟨hi, hpt, h1000⟩
  simp only at hi hpt h1000 ⊢
  have hLl := hpt.pc.len
  repeat refine At.seq ?_
  refine At.region tab_ok ?_
  conv => whnf
  refine ⟨h1.sl, ?_⟩
  conv => whnf
  repeat refine At.seq ?_
  refine At.cond rfl (fun hc => At.skip ?_) (fun hc => At.exit ?_)
  · have hlts : i < St.length := by have := of_decide_eq_true hc; (try simp only [List.length_map] at this); omega
    obtain ⟨s, hs⟩ : ∃ x, St[i]? = some x := ⟨_, List.getElem?_eq_getElem hlts⟩
    have hs0 := R.s0 s (List.mem_of_getElem? hs)
    have etk : St.take (i + 1) = St.take i ++ [s] := by rw [List.take_add_one, hs]; rfl
    repeat refine At.seq ?_
    refine At.block ?_
    repeat refine At.seq ?_
    refine At.region tab_ok ?_
    conv => whnf
    refine ⟨by omega, ?_⟩
    conv => whnf
    refine ⟨by omega, ?_⟩
    conv => whnf
    refine ⟨encI s, fun w' hw => h1.load (n := 1) hw.fr hs rfl, ?_⟩
    conv => whnf
    repeat refine At.seq ?_
    refine At.cond rfl (fun hq => ?_) (fun hq => ?_)
    · repeat refine At.seq ?_
      refine At.region tab_ok ?_
      conv => whnf
      repeat refine At.seq ?_
      refine At.ret (At.doneB tab_ok hB _ rfl fun w' hw => ⟨rfl, hw.fr⟩)
    have hs1 : s ≤ 1000 := by have := of_decide_eq_false hq; omega
    have h1000' : ∀ x ∈ St.take (i + 1), x ≤ 1000 := fun x hx => by
      rw [etk] at hx
      rcases List.mem_append.1 hx with hx | hx
      · exact h1000 x hx
      · rw [List.mem_singleton.1 hx]; exact hs1
    refine At.skip ?_
    repeat refine At.seq ?_
    refine At.region tab_ok ?_
    conv => whnf
    refine ⟨by omega, ?_⟩
    conv => whnf
    refine ⟨by omega, ?_⟩
    conv => whnf
    refine ⟨encI s, fun w' hw => h1.load (n := 1) hw.fr hs rfl, ?_⟩
    conv => whnf
    repeat refine At.seq ?_
    refine At.cond rfl (fun hq => ?_) (fun hq => ?_)
    · have hpos : 0 < s := of_decide_eq_true hq
      obtain ⟨t0, t1, t2⟩ := pt_take hpt hs hpos h1000' (by omega)
      repeat refine At.seq ?_
      refine At.region tab_ok ?_
      conv => whnf
      refine ⟨by omega, ?_⟩
      conv => whnf
      refine ⟨by omega, ?_⟩
      conv => whnf
      refine ⟨encI s, fun w' hw => h1.load (n := 1) hw.fr hs rfl, ?_⟩
      conv => whnf
      intro u1
      conv => whnf
      refine ansR_call b33 (rdP (nopL _)) (fun w' hw => rdo_c L (recD i s) vL u1 w' (slL L (hw.row (id := 4) rfl) (by omega)) (slS [⟨i, 0, s⟩] (hw.row (id := 5) rfl) (by simp)) (by omega) t2) ?_
      intro vL2
      conv => whnf
      rw [t0]
      repeat refine At.seq ?_
      refine At.region tab_ok ?_
      conv => whnf
      repeat refine At.seq ?_
      refine At.region tab_ok ?_
      conv => whnf
      repeat refine At.seq ?_
      refine At.region tab_ok ?_
      conv => whnf
      refine ⟨⟨by omega, by omega⟩, ?_⟩
      conv => whnf
      refine At.nextH fun w' hw => ⟨(i + 1, vL2, (doB L (recD i s)).1), ⟨by simp only; omega, t1, h1000'⟩, by simp only; omega, Le.of rfl rfl ⟨rfl, rfl, rfl, rfl, rfl, rfl, rfl, rfl, rfl, rfl, trivial⟩, hw.ren [6,3,1,0] rfl rfl rfl, ⟨⟨_, _, _, rfl⟩, ⟨_, _, _, rfl⟩, ⟨_, _, _, rfl⟩, ⟨_, _, _, rfl⟩, trivial⟩, ⟨(nopL _).okH, (nopI _).okH, (nopI _).okH, (nopP _).okH, trivial⟩⟩
    · have hz : s = 0 := by have := of_decide_eq_false hq; omega
      subst hz
      refine At.skip ?_
      repeat refine At.seq ?_
      refine At.region tab_ok ?_
      conv => whnf
      refine ⟨⟨by omega, by omega⟩, ?_⟩
      conv => whnf
      refine At.nextH fun w' hw => ⟨(i + 1, vL, L), ⟨by simp only; omega, pt_zero hpt hs, h1000'⟩, by simp only; omega, Le.of rfl rfl ⟨rfl, rfl, rfl, rfl, rfl, rfl, rfl, rfl, rfl, rfl, trivial⟩, hw.keep [4, 3, 1, 0] rfl rfl rfl, ⟨⟨_, _, _, rfl⟩, ⟨_, _, _, rfl⟩, ⟨_, _, _, rfl⟩, ⟨_, _, _, rfl⟩, trivial⟩, ⟨(nopL _).okH, (nopI _).okH, (nopI _).okH, (nopP _).okH, trivial⟩⟩
  have hie : i = St.length := by have := of_decide_eq_false hc; omega
  subst hie
  rw [List.take_length] at h1000
  have hpc0 : PC L St St.length := by have := hpt.pc; rw [List.take_length] at this; exact this
  clear hpt h1000 hLl
  obtain ⟨_, hform, hrun⟩ := Pl.runAll_ok hr
  simp only [Pl.formedB, Bool.and_eq_true] at hform
  have hMo := fun m hm => (R.meet m hm).1
  have hPok := (Pl.formP_ok hMo (by omega) hform.2).1
  have hXl : X.length = W.length := hm0.1
  generalize hD : Pl.dues M W X = D at hrun
  have hDl : D.length = W.length := by rw [← hD]; exact Pl.dues_len M W X hXl
  repeat refine At.seq ?_
  refine At.region tab_ok ?_
  conv => whnf
  repeat refine At.seq ?_
  refine At.region tab_ok ?_
  conv => whnf
  repeat refine At.seq ?_
  refine At.block ?_
  refine At.loopH (fun p : Nat × Value × List Lot × Int × List Int × Nat => { N := Try.f16.ntmps, sl := [(0, some (.x v1)), (1, some (.x v2)), (2, some (.x v3)), (7, some (.b true)), (8, some (.s (.c (.o 0 vp)))), (9, some (.s (.c (.o 1 vx)))), (12, some (.s (.c (.o 3 vl)))), (14, some (.s (.c (.o 4 p.2.1)))), (15, some (.i 0)), (19, some (.i p.2.2.2.1)), (20, some (.i p.1))], gl := [], hp := [(4, .row p.2.1 58 7 (p.2.2.1.map encL)), (3, .row vl 3 1 (r.map encI)), (1, .row vx 3 1 (X.map encI)), (0, .row vp 38 4 (P.map encP))], S := [], ws := w }) (fun p : Nat × Value × List Lot × Int × List Int × Nat => p.1 ≤ M.length + 1 ∧ PC p.2.2.1 p.2.2.2.2.1 St.length ∧ p.2.2.2.2.1.length = St.length ∧ Pl.runK D p.1 (M.length + 1 - p.1) (P.drop p.2.2.2.2.2) p.2.2.2.2.1 = some r ∧ (∀ (j : Nat) x, P[j]? = some x → j < p.2.2.2.2.2 → x.meet < p.1) ∧ (∀ (j : Nat) x, P[j]? = some x → p.2.2.2.2.2 ≤ j → (p.1 : Int) ≤ x.meet) ∧ 100 ≤ p.2.2.2.1 ∧ p.2.2.2.1 ≤ 100 + 1000020 * p.1) (fun p : Nat × Value × List Lot × Int × List Int × Nat => M.length + 1 - p.1)
    (fun w' hw => ⟨(0, vL, L, 100, St, 0), ⟨Nat.zero_le _, hpc0, rfl, hrun, fun j x _ h => (Nat.not_lt_zero _ h).elim, fun j x hx _ => (hPok.ok x (List.mem_of_getElem? hx)).1, by simp only; omega, by simp only; omega⟩, Le.of rfl rfl ⟨rfl, rfl, rfl, rfl, rfl, rfl, rfl, rfl, rfl, rfl, rfl, trivial⟩, hw.keep [4, 3, 1, 0] rfl rfl rfl, ⟨⟨_, _, _, rfl⟩, ⟨_, _, _, rfl⟩, ⟨_, _, _, rfl⟩, ⟨_, _, _, rfl⟩, trivial⟩, ⟨(nopL _).okH, (nopI _).okH, (nopI _).okH, (nopP _).okH, trivial⟩⟩) ?_
  clear hpc0
  rintro ⟨k, vL, L, mk, now, j⟩ ⟨hk, hpc, hnl, hrk, hlo, hhi, hmk0, hmk1⟩
  simp only at hk hpc hnl hrk hlo hhi hmk0 hmk1 ⊢
  repeat refine At.seq ?_
  refine At.region tab_ok ?_
  conv => whnf
  refine ⟨h2.sl, ?_⟩
  conv => whnf
  rw [l2]
  conv => whnf
  repeat refine At.seq ?_
  refine At.cond rfl (fun hc => At.skip ?_) (fun hc => At.exit ?_)
  · have hkM : k ≤ M.length := by have := of_decide_eq_true hc; omega
    have hstep : M.length + 1 - k = (M.length - k) + 1 := by omega
    rw [hstep] at hrk
    simp only [Pl.runK] at hrk
    obtain ⟨now1, hw1⟩ : ∃ now1, Pl.runW k D now = some now1 := by
      cases h : Pl.runW k D now with
      | none => rw [h] at hrk; cases hrk
      | some y => exact ⟨y, rfl⟩
    rw [hw1] at hrk
    simp only at hrk
    obtain ⟨now2, P2, hp1⟩ : ∃ now2 P2, Pl.runP k (P.drop j) now1 = some (now2, P2) := by
      cases h : Pl.runP k (P.drop j) now1 with
      | none => rw [h] at hrk; cases hrk
      | some y => exact ⟨y.1, y.2, rfl⟩
    rw [hp1] at hrk
    simp only at hrk
    have hl1 : now1.length = St.length := by rw [Pl.runW_len hw1, hnl]
    obtain ⟨dk, hdk⟩ : ∃ d : Int, ∀ m, M[k]? = some m → m.day = d := by
      cases h : M[k]? with
      | none => exact ⟨0, fun m e => by cases e⟩
      | some m => exact ⟨m.day, fun m' e => by cases e; rfl⟩
    repeat refine At.seq ?_
    refine At.block ?_
    repeat refine At.seq ?_
    refine At.region tab_ok ?_
    conv => whnf
    repeat refine At.seq ?_
    refine At.block ?_
    refine At.loopH (fun q : Nat × Value × List Lot × Int × List Int => { N := Try.f16.ntmps, sl := [(0, some (.x v1)), (1, some (.x v2)), (2, some (.x v3)), (7, some (.b true)), (8, some (.s (.c (.o 0 vp)))), (9, some (.s (.c (.o 1 vx)))), (12, some (.s (.c (.o 3 vl)))), (14, some (.s (.c (.o 4 q.2.1)))), (15, some (.i 0)), (19, some (.i q.2.2.2.1)), (20, some (.i k)), (21, some (.i q.1))], gl := [], hp := [(4, .row q.2.1 58 7 (q.2.2.1.map encL)), (3, .row vl 3 1 (r.map encI)), (1, .row vx 3 1 (X.map encI)), (0, .row vp 38 4 (P.map encP))], S := [], ws := w }) (fun q : Nat × Value × List Lot × Int × List Int => q.1 ≤ W.length ∧ PC q.2.2.1 q.2.2.2.2 St.length ∧ q.2.2.2.2.length = St.length ∧ Pl.runW k (D.drop q.1) q.2.2.2.2 = some now1 ∧ 100 ≤ q.2.2.2.1 ∧ q.2.2.2.1 ≤ 100 + 1000020 * k + q.1) (fun q : Nat × Value × List Lot × Int × List Int => W.length - q.1)
      (fun w' hw => ⟨(0, vL, L, mk, now), ⟨Nat.zero_le _, hpc, hnl, hw1, hmk0, by simp only; omega⟩, Le.of rfl rfl ⟨rfl, rfl, rfl, rfl, rfl, rfl, rfl, rfl, rfl, rfl, rfl, rfl, trivial⟩, hw.keep [4, 3, 1, 0] rfl rfl rfl, ⟨⟨_, _, _, rfl⟩, ⟨_, _, _, rfl⟩, ⟨_, _, _, rfl⟩, ⟨_, _, _, rfl⟩, trivial⟩, ⟨(nopL _).okH, (nopI _).okH, (nopI _).okH, (nopP _).okH, trivial⟩⟩) ?_
    clear hpc hnl hmk0 hmk1 hw1
    rintro ⟨i, vL, L, mk, nowi⟩ ⟨hi, hpc, hnl, hwi, hmk0, hmk1⟩
    simp only at hi hpc hnl hwi hmk0 hmk1 ⊢
    have hLl := hpc.len
    repeat refine At.seq ?_
    refine At.region tab_ok ?_
    conv => whnf
    refine ⟨h3.sl, ?_⟩
    conv => whnf
    repeat refine At.seq ?_
    refine At.cond rfl (fun hc => At.skip ?_) (fun hc => At.exit ?_)
    · have hlty : i < W.length := by have := of_decide_eq_true hc; (try simp only [List.length_map] at this); omega
      obtain ⟨y, hy⟩ : ∃ x, W[i]? = some x := ⟨_, List.getElem?_eq_getElem hlty⟩
      have hlt : i < X.length := by omega
      obtain ⟨x, hx⟩ : ∃ x, X[i]? = some x := ⟨_, List.getElem?_eq_getElem hlt⟩
      have hyb := R.want y (List.mem_of_getElem? hy)
      have hxb := hm0.2 x (List.mem_of_getElem? hx)
      have hdr : D.drop i = ⟨Pl.upto M y.day, y.key, y.n, x⟩ :: D.drop (i + 1) := drop_cons' (by rw [← hD]; exact dues_get hy hx)
      rw [hdr] at hwi
      simp only [Pl.runW] at hwi
      have huto := Pl.upto_is R.sorted (d := y.day) hkM
      repeat refine At.seq ?_
      refine At.block ?_
      repeat refine At.seq ?_
      refine At.draw tab_ok mixed (by kernel_rfl) ?_
      conv => whnf
      refine ⟨h2.sl, ?_⟩
      conv => whnf
      rw [l2]
      conv => whnf
      refine ⟨by simp only [gimp]; intro _; omega, ?_⟩
      conv => whnf
      refine ⟨by simp only [gimp]; intro hq; have : ¬ ((k : Int) = M.length) := (by simpa using hq); omega, ?_⟩
      conv => whnf
      refine ⟨[.i dk], by
        simp only [gimp]
        intro hq w' hw
        have : ¬ ((k : Int) = M.length) := by simpa using hq
        obtain ⟨m, hm⟩ : ∃ m, M[k]? = some m := ⟨_, List.getElem?_eq_getElem (by omega)⟩
        rw [← hdk m hm]
        exact h2.load (n := 1) hw.fr hm rfl, ?_⟩
      conv => whnf
      refine ⟨by simp only [gimp]; intro _; omega, ?_⟩
      conv => whnf
      refine ⟨by simp only [gimp]; intro _; omega, ?_⟩
      conv => whnf
      refine ⟨[.i y.day], by simp only [gimp]; intro _ w' hw; exact h3.load (n := 1) hw.fr hy rfl, ?_⟩
      conv => whnf
      repeat refine At.seq ?_
      refine At.region tab_ok ?_
      conv => whnf
      repeat refine At.seq ?_
      refine At.join (fun u : Unit => { N := Try.f16.ntmps, sl := [(0, some (.x v1)), (1, some (.x v2)), (2, some (.x v3)), (7, some (.b true)), (8, some (.s (.c (.o 0 vp)))), (9, some (.s (.c (.o 1 vx)))), (12, some (.s (.c (.o 3 vl)))), (14, some (.s (.c (.o 4 vL)))), (15, some (.i 0)), (19, some (.i mk)), (20, some (.i k)), (21, some (.i i)), (22, some (.b (decide (Pl.upto M y.day = k))))], gl := [], hp := [(4, .row vL 58 7 (L.map encL)), (3, .row vl 3 1 (r.map encI)), (1, .row vx 3 1 (X.map encI)), (0, .row vp 38 4 (P.map encP))], S := [], ws := w }) (fun u : Unit => True) ?_ ?_
      · repeat refine At.seq ?_
        refine At.cond rfl (fun hq => ?_) (fun hq => ?_)
        · have hq2 : ((k : Int) = M.length ∨ y.day < dk) ∧ 0 < k := by simpa using hq
          have hk0 : 0 < k := hq2.2
          obtain ⟨m, hm⟩ : ∃ m, M[k - 1]? = some m := ⟨_, List.getElem?_eq_getElem (by omega)⟩
          repeat refine At.seq ?_
          refine At.draw tab_ok mixed (by kernel_rfl) ?_
          conv => whnf
          refine ⟨⟨by omega, by omega⟩, ?_⟩
          conv => whnf
          refine ⟨by omega, ?_⟩
          conv => whnf
          refine ⟨by omega, ?_⟩
          conv => whnf
          refine ⟨[.i m.day], fun w' hw => ?_, ?_⟩
          · have := h2.load (n := 1) (off := 0) hw.fr hm rfl
            rw [show ((k : Int) - 1) = ((k - 1 : Nat) : Int) by omega]
            exact this
          conv => whnf
          refine ⟨by omega, ?_⟩
          conv => whnf
          refine ⟨by omega, ?_⟩
          conv => whnf
          refine ⟨[.i y.day], fun w' hw => h3.load (n := 1) hw.fr hy rfl, ?_⟩
          conv => whnf
          have hdue : decide (m.day ≤ y.day) = decide (Pl.upto M y.day = k) := by
            rw [Bool.eq_iff_iff, decide_eq_true_iff, decide_eq_true_iff, huto]
            constructor
            · intro h
              refine ⟨fun m' hm' => ?_, fun m' _ hm' => by rw [hm] at hm'; cases hm'; exact h⟩
              have := (List.getElem?_eq_some_iff.1 hm').1
              rw [hdk m' hm']
              rcases hq2.1 with h' | h' <;> omega
            · intro h; exact h.2 m hk0 hm
          refine At.meet fun w' hw => ⟨(), trivial, Le.of rfl rfl ⟨rfl, rfl, rfl, rfl, rfl, rfl, rfl, rfl, rfl, rfl, rfl, rfl, congrArg Value.bool (by exact hdue), trivial⟩, hw.keep [4, 3, 1, 0] rfl rfl rfl, ⟨⟨_, _, _, rfl⟩, ⟨_, _, _, rfl⟩, ⟨_, _, _, rfl⟩, ⟨_, _, _, rfl⟩, trivial⟩, ⟨(nopL _).okH, (nopI _).okH, (nopI _).okH, (nopP _).okH, trivial⟩⟩
        · have hdue : (bif decide ((k : Int) = M.length) then true else decide (y.day < dk)) = decide (Pl.upto M y.day = k) := by
            rw [Bool.eq_iff_iff, decide_eq_true_iff, huto]
            have hq2 : ((k : Int) = M.length ∨ y.day < dk) → k = 0 := by
              intro h
              rcases Nat.eq_zero_or_pos k with h0 | h0
              · exact h0
              · exfalso
                have : (((k : Int) = M.length ∨ y.day < dk) ∧ 0 < k) := ⟨h, h0⟩
                simp [this] at hq
                omega
            constructor
            · intro h
              have h' : (k : Int) = M.length ∨ y.day < dk := by simpa using h
              refine ⟨fun m' hm' => ?_, fun m' h0 _ => by have := hq2 h'; omega⟩
              have := (List.getElem?_eq_some_iff.1 hm').1
              rw [hdk m' hm']
              rcases h' with h' | h' <;> omega
            · intro h
              by_cases hkl : k = M.length
              · simp [hkl]
              · obtain ⟨m', hm'⟩ : ∃ m', M[k]? = some m' := ⟨_, List.getElem?_eq_getElem (by omega)⟩
                have := h.1 m' hm'
                rw [hdk m' hm'] at this
                simp [this]
          refine At.skip ?_
          refine At.meet fun w' hw => ⟨(), trivial, Le.of rfl rfl ⟨rfl, rfl, rfl, rfl, rfl, rfl, rfl, rfl, rfl, rfl, rfl, rfl, congrArg Value.bool (by exact hdue), trivial⟩, hw.keep [4, 3, 1, 0] rfl rfl rfl, ⟨⟨_, _, _, rfl⟩, ⟨_, _, _, rfl⟩, ⟨_, _, _, rfl⟩, ⟨_, _, _, rfl⟩, trivial⟩, ⟨(nopL _).okH, (nopI _).okH, (nopI _).okH, (nopP _).okH, trivial⟩⟩
      rintro ⟨⟩ -
      repeat refine At.seq ?_
      refine At.regionG tab_ok ?_
      conv => whnf
      by_cases hu : Pl.upto M y.day = k
      · rw [decide_eq_true hu]
        conv => whnf
        rw [if_pos hu] at hwi
        have hneg : ¬ Pl.at' nowi y.key - x < 0 := fun h => by rw [if_pos h] at hwi; cases hwi
        rw [if_neg hneg] at hwi
        refine ⟨rfl, ?_⟩
        conv => whnf
        refine ⟨by omega, ?_⟩
        conv => whnf
        refine ⟨by rw [List.length_map]; omega, ?_⟩
        conv => whnf
        refine ⟨encI x, ⟨rfl, rfl, by omega, by rw [Int.toNat_natCast, List.getElem?_map, hx]; rfl⟩, ?_⟩
        conv => whnf
        repeat refine At.seq ?_
        refine At.cond rfl (fun hq => ?_) (fun hq => ?_)
        · have hx1 : 0 < x := of_decide_eq_true hq
          obtain ⟨e0, hpc2, hok⟩ := pc_spend (b := 0) (mark := mk) hpc hnl (by omega) hyb.2.1 (by omega) (by omega : x ≤ Pl.at' nowi y.key) ⟨by omega, by omega⟩
          repeat refine At.seq ?_
          refine At.planG tab_ok mixed [(4, .row vL 58 7 (L.map encL)), (3, .row vl 3 1 (r.map encI)), (1, .row vx 3 1 (X.map encI)), (0, .row vp 38 4 (P.map encP))] (.take 0 (.take 1 (.take 2 (.take 3 (.take 4 (.take 5 (.take 6 (.take 7 (.take 8 (.take 9 (.take 10 (.take 11 (.br 12 (.br 13 (.take 14 (.take 15 (.take 16 (.take 17 (.take 18 (.done)))))) (.nob)) (.nob)))))))))))))) (by kernel_rfl) (by kernel_rfl) ⟨rfl, rfl, rfl, rfl, trivial⟩ ?_
          conv => whnf
          refine ⟨by omega, ?_⟩
          conv => whnf
          refine ⟨by omega, ?_⟩
          conv => whnf
          refine ⟨[.i y.key], fun w' hw => h3.load (n := 1) hw hy rfl, ?_⟩
          conv => whnf
          refine ⟨rfl, ?_⟩
          conv => whnf
          refine ⟨by omega, ?_⟩
          conv => whnf
          refine ⟨by rw [List.length_map]; omega, ?_⟩
          conv => whnf
          refine ⟨encI x, ⟨rfl, rfl, by omega, by rw [Int.toNat_natCast, List.getElem?_map, hx]; rfl⟩, ?_⟩
          conv => whnf
          refine ⟨?_, trivial⟩
          conv => whnf
          refine ansG_call b52 rfl rfl (nopS _) (fun w' hw => deed30_c L mk 3 y.key 0 x vL w' (slL L (hw.row (id := 4) rfl) (by omega)) (by omega) ⟨by omega, by omega⟩) ?_
          intro u1
          conv => whnf
          refine ⟨⟨⟨rfl, rfl, rfl, rfl, trivial⟩, fun w' hw => hw.fr⟩, ?_⟩
          conv => whnf
          refine ⟨?_, trivial⟩
          conv => whnf
          have hsl : (firstC (ownedL L y.key) x).length ≤ 1000000 := by have := hok.spans; have e : (giveD L mk 3 y.key 0 x).spans = firstC (ownedL L y.key) x := rfl; rw [e] at this; omega
          refine ansR_call b33 (rdP (nopL _)) (fun w' hw => rdo_c L (giveD L mk 3 y.key 0 x) vL u1 w' (slL L (hw.row (id := 4) rfl) (by omega)) (slS _ (hw.row (id := 5) rfl) hsl) (by omega) hok) ?_
          intro vL2
          conv => whnf
          rw [e0]
          refine ⟨⟨⟨rfl, rfl, rfl, rfl, trivial⟩, fun w' hw => hw.fr⟩, ?_⟩
          conv => whnf
          repeat refine At.seq ?_
          refine At.region tab_ok ?_
          conv => whnf
          repeat refine At.seq ?_
          refine At.region tab_ok ?_
          conv => whnf
          repeat refine At.seq ?_
          refine At.region tab_ok ?_
          conv => whnf
          refine ⟨⟨by omega, by omega⟩, ?_⟩
          conv => whnf
          repeat refine At.seq ?_
          refine At.region tab_ok ?_
          conv => whnf
          refine ⟨⟨by omega, by omega⟩, ?_⟩
          conv => whnf
          refine At.nextH fun w' hw => ⟨(i + 1, vL2, (doB L (giveD L mk 3 y.key 0 x)).1, mk + 1, Pl.put' nowi y.key (Pl.at' nowi y.key - x)), ⟨by simp only; omega, hpc2, by simp only [Pl.put'_len]; exact hnl, hwi, by simp only; omega, by simp only; omega⟩, by simp only; omega, Le.of rfl rfl ⟨rfl, rfl, rfl, rfl, rfl, rfl, rfl, rfl, rfl, rfl, rfl, rfl, trivial⟩, hw.ren [6,3,1,0] rfl rfl rfl, ⟨⟨_, _, _, rfl⟩, ⟨_, _, _, rfl⟩, ⟨_, _, _, rfl⟩, ⟨_, _, _, rfl⟩, trivial⟩, ⟨(nopL _).okH, (nopI _).okH, (nopI _).okH, (nopP _).okH, trivial⟩⟩
        · have hx0 : x = 0 := by have := of_decide_eq_false hq; omega
          rw [hx0, Pl.put_same hyb.2.1.1 (by omega)] at hwi
          refine At.skip ?_
          repeat refine At.seq ?_
          refine At.region tab_ok ?_
          conv => whnf
          refine ⟨⟨by omega, by omega⟩, ?_⟩
          conv => whnf
          refine At.nextH fun w' hw => ⟨(i + 1, vL, L, mk, nowi), ⟨by simp only; omega, hpc, hnl, hwi, hmk0, by simp only; omega⟩, by simp only; omega, Le.of rfl rfl ⟨rfl, rfl, rfl, rfl, rfl, rfl, rfl, rfl, rfl, rfl, rfl, rfl, trivial⟩, hw.keep [4, 3, 1, 0] rfl rfl rfl, ⟨⟨_, _, _, rfl⟩, ⟨_, _, _, rfl⟩, ⟨_, _, _, rfl⟩, ⟨_, _, _, rfl⟩, trivial⟩, ⟨(nopL _).okH, (nopI _).okH, (nopI _).okH, (nopP _).okH, trivial⟩⟩
      · rw [decide_eq_false hu]
        rw [if_neg hu] at hwi
        conv => whnf
        repeat refine At.seq ?_
        refine At.cond (t := false) rfl (fun hq => by cases hq) (fun hq => At.skip ?_)
        repeat refine At.seq ?_
        refine At.region tab_ok ?_
        conv => whnf
        refine ⟨⟨by omega, by omega⟩, ?_⟩
        conv => whnf
        refine At.nextH fun w' hw => ⟨(i + 1, vL, L, mk, nowi), ⟨by simp only; omega, hpc, hnl, hwi, hmk0, by simp only; omega⟩, by simp only; omega, Le.of rfl rfl ⟨rfl, rfl, rfl, rfl, rfl, rfl, rfl, rfl, rfl, rfl, rfl, rfl, trivial⟩, hw.keep [4, 3, 1, 0] rfl rfl rfl, ⟨⟨_, _, _, rfl⟩, ⟨_, _, _, rfl⟩, ⟨_, _, _, rfl⟩, ⟨_, _, _, rfl⟩, trivial⟩, ⟨(nopL _).okH, (nopI _).okH, (nopI _).okH, (nopP _).okH, trivial⟩⟩
    have hie : i = W.length := by have := of_decide_eq_false hc; omega
    have hn1 : nowi = now1 := by
      rw [List.drop_eq_nil_of_le (by omega)] at hwi
      simp only [Pl.runW] at hwi
      cases hwi; rfl
    subst hn1
    obtain ⟨j2, hj2, hP2, hlo2, hhi2, hoth, hone⟩ : ∃ j2, (j ≤ j2 ∧ j2 ≤ j + 1) ∧ P2 = P.drop j2 ∧ (∀ (j' : Nat) x, P[j']? = some x → j' < j2 → x.meet < ((k + 1 : Nat) : Int)) ∧ (∀ (j' : Nat) x, P[j']? = some x → j2 ≤ j' → ((k + 1 : Nat) : Int) ≤ x.meet) ∧
        (now2 ≠ nowi → j2 = j + 1) ∧ ∀ (j' : Nat) x, P[j']? = some x → x.meet = k → j' = j ∧ j2 = j + 1 ∧ ¬ Pl.at' nowi x.fr - x.n < 0 ∧ now2 = Pl.put' (Pl.put' nowi x.fr (Pl.at' nowi x.fr - x.n)) x.to (Pl.at' (Pl.put' nowi x.fr (Pl.at' nowi x.fr - x.n)) x.to + x.n) := by
      have asc : ∀ (a b : Nat) x z, a < b → P[a]? = some x → P[b]? = some z → x.meet < z.meet := fun a b x z hab ha hb => by
        obtain ⟨ha1, ha2⟩ := List.getElem?_eq_some_iff.1 ha
        obtain ⟨hb1, hb2⟩ := List.getElem?_eq_some_iff.1 hb
        have := List.pairwise_iff_getElem.1 hPok.asc a b ha1 hb1 hab
        rw [ha2, hb2] at this; exact this
      cases hd : P.drop j with
      | nil =>
        rw [hd] at hp1
        simp only [Pl.runP] at hp1
        cases hp1
        have hjl : P.length ≤ j := List.drop_eq_nil_iff.1 hd
        refine ⟨j, by omega, hd.symm, fun j' x hx hj' => by have := hlo j' x hx hj'; omega, fun j' x hx hj' => ?_, fun h => (h rfl).elim, fun j' x hx e => ?_⟩
        · have := (List.getElem?_eq_some_iff.1 hx).1; omega
        · have := (List.getElem?_eq_some_iff.1 hx).1
          have := hlo j' x hx (by omega); omega
      | cons z Q =>
        have hz : P[j]? = some z := by have := congrArg (fun l => l[0]?) hd; simpa using this
        have hQ : Q = P.drop (j + 1) := by have := congrArg List.tail hd; simpa using this.symm
        rw [hd] at hp1
        simp only [Pl.runP] at hp1
        have hzk := hhi j z hz (Nat.le_refl _)
        by_cases hzm : z.meet = k
        · rw [if_pos hzm] at hp1
          by_cases hneg : Pl.at' nowi z.fr - z.n < 0
          · rw [if_pos hneg] at hp1; cases hp1
          rw [if_neg hneg] at hp1
          cases hp1
          refine ⟨j + 1, by omega, hQ, fun j' x hx hj' => ?_, fun j' x hx hj' => ?_, fun _ => rfl, fun j' x hx e => ?_⟩
          · rcases Nat.lt_or_ge j' j with h | h
            · have := hlo j' x hx h; omega
            · have : j' = j := by omega
              subst this
              rw [hz] at hx; cases hx; omega
          · have := asc j j' z x (by omega) hz hx; omega
          · have : j' = j := by
              rcases Nat.lt_trichotomy j' j with h | h | h
              · have := hlo j' x hx h; omega
              · exact h
              · have := asc j j' z x h hz hx; omega
            subst this
            rw [hz] at hx; cases hx
            exact ⟨rfl, rfl, hneg, rfl⟩
        · rw [if_neg hzm] at hp1
          cases hp1
          refine ⟨j, by omega, hd.symm, fun j' x hx hj' => by have := hlo j' x hx hj'; omega, fun j' x hx hj' => ?_, fun h => (h rfl).elim, fun j' x hx e => ?_⟩
          · rcases Nat.lt_or_ge j j' with h | h
            · have := asc j j' z x h hz hx; omega
            · have : j' = j := by omega
              subst this
              rw [hz] at hx; cases hx; omega
          · exfalso
            rcases Nat.lt_trichotomy j' j with h | h | h
            · have := hlo j' x hx h; omega
            · subst h; rw [hz] at hx; cases hx; exact hzm e
            · have := asc j j' z x h hz hx; omega
    repeat refine At.seq ?_
    refine At.region tab_ok ?_
    conv => whnf
    repeat refine At.seq ?_
    refine At.block ?_
    refine At.loopH (fun q : Nat × Value × List Lot × Int × List Int => { N := Try.f16.ntmps, sl := [(0, some (.x v1)), (1, some (.x v2)), (2, some (.x v3)), (7, some (.b true)), (8, some (.s (.c (.o 0 vp)))), (9, some (.s (.c (.o 1 vx)))), (12, some (.s (.c (.o 3 vl)))), (14, some (.s (.c (.o 4 q.2.1)))), (15, some (.i 0)), (19, some (.i q.2.2.2.1)), (20, some (.i k)), (25, some (.i q.1))], gl := [], hp := [(4, .row q.2.1 58 7 (q.2.2.1.map encL)), (3, .row vl 3 1 (r.map encI)), (1, .row vx 3 1 (X.map encI)), (0, .row vp 38 4 (P.map encP))], S := [], ws := w }) (fun q : Nat × Value × List Lot × Int × List Int => q.1 ≤ P.length ∧ PC q.2.2.1 q.2.2.2.2 St.length ∧ q.2.2.2.2.length = St.length ∧ (q.1 ≤ j → q.2.2.2.2 = nowi) ∧ (j < q.1 → q.2.2.2.2 = now2) ∧ 100 ≤ q.2.2.2.1 ∧ q.2.2.2.1 ≤ 100 + 1000020 * k + W.length + q.1) (fun q : Nat × Value × List Lot × Int × List Int => P.length - q.1)
      (fun w' hw => ⟨(0, vL, L, mk, nowi), ⟨Nat.zero_le _, hpc, hnl, fun _ => rfl, fun h => (Nat.not_lt_zero _ h).elim, hmk0, by simp only; omega⟩, Le.of rfl rfl ⟨rfl, rfl, rfl, rfl, rfl, rfl, rfl, rfl, rfl, rfl, rfl, rfl, trivial⟩, hw.keep [4, 3, 1, 0] rfl rfl rfl, ⟨⟨_, _, _, rfl⟩, ⟨_, _, _, rfl⟩, ⟨_, _, _, rfl⟩, ⟨_, _, _, rfl⟩, trivial⟩, ⟨(nopL _).okH, (nopI _).okH, (nopI _).okH, (nopP _).okH, trivial⟩⟩) ?_
    clear hpc hmk0 hmk1 hLl
    rintro ⟨n, vL, L, mk, nowj⟩ ⟨hn, hpc, hnj, hq1, hq2, hmk0, hmk1⟩
    simp only at hn hpc hnj hq1 hq2 hmk0 hmk1 ⊢
    have hLl := hpc.len
    repeat refine At.seq ?_
    refine At.region tab_ok ?_
    conv => whnf
    refine ⟨rfl, ?_⟩
    conv => whnf
    refine ⟨by simp only [gimp]; intro _; exact h2.sl, ?_⟩
    conv => whnf
    repeat refine At.seq ?_
    refine At.cond rfl (fun hc => At.skip ?_) (fun hc => At.exit ?_)
    · have hc2 : (n : Int) < ((P.map encP).length : Nat) ∧ (k : Int) < slen v2 := by simpa using hc
      have hnP : n < P.length := by have := hc2.1; rw [List.length_map] at this; omega
      have hkl : k < M.length := by have := hc2.2; omega
      have hlt : n < P.length := hnP
      obtain ⟨x, hx⟩ : ∃ x, P[n]? = some x := ⟨_, List.getElem?_eq_getElem hlt⟩
      obtain ⟨hx0, m, hm, hx1, hx2, hx3⟩ := hPok.ok x (List.mem_of_getElem? hx)
      have hmm := hMo m (List.mem_of_getElem? hm)
      have ma0 := hmm.a0
      have ma1 := hmm.a1
      have mb0 := hmm.b0
      have mb1 := hmm.b1
      have mne := hmm.ne
      have mc1 := hmm.c1
      have hmc : Pl.maxC = 1099511627776 := rfl
      have hfr : 0 ≤ x.fr ∧ x.fr < St.length := by rcases hx3 with ⟨e, _⟩ | ⟨e, _⟩ <;> omega
      have hto : 0 ≤ x.to ∧ x.to < St.length := by rcases hx3 with ⟨_, e⟩ | ⟨_, e⟩ <;> omega
      have hne : x.to ≠ x.fr := by rcases hx3 with ⟨e1, e2⟩ | ⟨e1, e2⟩ <;> omega
      repeat refine At.seq ?_
      refine At.block ?_
      repeat refine At.seq ?_
      refine At.region tab_ok ?_
      conv => whnf
      refine ⟨rfl, ?_⟩
      conv => whnf
      refine ⟨by omega, ?_⟩
      conv => whnf
      refine ⟨by rw [List.length_map]; omega, ?_⟩
      conv => whnf
      refine ⟨encP x, ⟨rfl, rfl, by omega, by rw [Int.toNat_natCast, List.getElem?_map, hx]; rfl⟩, ?_⟩
      conv => whnf
      repeat refine At.seq ?_
      refine At.cond rfl (fun hq => ?_) (fun hq => ?_)
      · have hxk : x.meet = k := of_decide_eq_true hq
        obtain ⟨e1, e2, e3, e4⟩ := hone n x hx hxk
        subst e1
        have hnow := hq1 (Nat.le_refl _)
        subst hnow
        obtain ⟨e0, hpc2, hok⟩ := pc_pass (mark := mk) hpc hnj (by omega) hfr hto hne hx1 (by omega : x.n ≤ Pl.at' nowj x.fr) ⟨by omega, by omega⟩
        rw [← e4] at hpc2
        have hn2l : now2.length = St.length := by rw [e4, Pl.put'_len, Pl.put'_len]; exact hnj
        repeat refine At.seq ?_
        refine At.planG tab_ok mixed [(4, .row vL 58 7 (L.map encL)), (3, .row vl 3 1 (r.map encI)), (1, .row vx 3 1 (X.map encI)), (0, .row vp 38 4 (P.map encP))] (.take 0 (.take 1 (.take 2 (.take 3 (.take 4 (.take 5 (.take 6 (.take 7 (.take 8 (.take 9 (.take 10 (.take 11 (.take 12 (.take 13 (.take 14 (.take 15 (.take 16 (.take 17 (.br 18 (.br 19 (.take 20 (.take 21 (.take 22 (.take 23 (.take 24 (.done)))))) (.nob)) (.nob)))))))))))))))))))) (by kernel_rfl) (by kernel_rfl) ⟨rfl, rfl, rfl, rfl, trivial⟩ ?_
        conv => whnf
        refine ⟨rfl, ?_⟩
        conv => whnf
        refine ⟨by omega, ?_⟩
        conv => whnf
        refine ⟨by rw [List.length_map]; omega, ?_⟩
        conv => whnf
        refine ⟨encP x, ⟨rfl, rfl, by omega, by rw [Int.toNat_natCast, List.getElem?_map, hx]; rfl⟩, ?_⟩
        conv => whnf
        refine ⟨rfl, ?_⟩
        conv => whnf
        refine ⟨by omega, ?_⟩
        conv => whnf
        refine ⟨by rw [List.length_map]; omega, ?_⟩
        conv => whnf
        refine ⟨encP x, ⟨rfl, rfl, by omega, by rw [Int.toNat_natCast, List.getElem?_map, hx]; rfl⟩, ?_⟩
        conv => whnf
        refine ⟨rfl, ?_⟩
        conv => whnf
        refine ⟨by omega, ?_⟩
        conv => whnf
        refine ⟨by rw [List.length_map]; omega, ?_⟩
        conv => whnf
        refine ⟨encP x, ⟨rfl, rfl, by omega, by rw [Int.toNat_natCast, List.getElem?_map, hx]; rfl⟩, ?_⟩
        conv => whnf
        refine ⟨?_, trivial⟩
        conv => whnf
        refine ansG_call b52 rfl rfl (nopS _) (fun w' hw => deed30_c L mk 1 x.fr x.to x.n vL w' (slL L (hw.row (id := 4) rfl) (by omega)) (by omega) ⟨by omega, by omega⟩) ?_
        intro u1
        conv => whnf
        refine ⟨⟨⟨rfl, rfl, rfl, rfl, trivial⟩, fun w' hw => hw.fr⟩, ?_⟩
        conv => whnf
        refine ⟨?_, trivial⟩
        conv => whnf
        have hsl : (firstC (ownedL L x.fr) x.n).length ≤ 1000000 := by have := hok.spans; have e : (giveD L mk 1 x.fr x.to x.n).spans = firstC (ownedL L x.fr) x.n := rfl; rw [e] at this; omega
        refine ansR_call b33 (rdP (nopL _)) (fun w' hw => rdo_c L (giveD L mk 1 x.fr x.to x.n) vL u1 w' (slL L (hw.row (id := 4) rfl) (by omega)) (slS _ (hw.row (id := 5) rfl) hsl) (by omega) hok) ?_
        intro vL2
        conv => whnf
        rw [e0]
        refine ⟨⟨⟨rfl, rfl, rfl, rfl, trivial⟩, fun w' hw => hw.fr⟩, ?_⟩
        conv => whnf
        repeat refine At.seq ?_
        refine At.region tab_ok ?_
        conv => whnf
        repeat refine At.seq ?_
        refine At.region tab_ok ?_
        conv => whnf
        repeat refine At.seq ?_
        refine At.region tab_ok ?_
        conv => whnf
        refine ⟨⟨by omega, by omega⟩, ?_⟩
        conv => whnf
        repeat refine At.seq ?_
        refine At.region tab_ok ?_
        conv => whnf
        refine ⟨⟨by omega, by omega⟩, ?_⟩
        conv => whnf
        refine At.nextH fun w' hw => ⟨(n + 1, vL2, (doB L (giveD L mk 1 x.fr x.to x.n)).1, mk + 1, now2), ⟨by simp only; omega, hpc2, hn2l, fun h => by simp only at h; omega, fun _ => rfl, by simp only; omega, by simp only; omega⟩, by simp only; omega, Le.of rfl rfl ⟨rfl, rfl, rfl, rfl, rfl, rfl, rfl, rfl, rfl, rfl, rfl, rfl, trivial⟩, hw.ren [6,3,1,0] rfl rfl rfl, ⟨⟨_, _, _, rfl⟩, ⟨_, _, _, rfl⟩, ⟨_, _, _, rfl⟩, ⟨_, _, _, rfl⟩, trivial⟩, ⟨(nopL _).okH, (nopI _).okH, (nopI _).okH, (nopP _).okH, trivial⟩⟩
      · have hxk : ¬ x.meet = k := of_decide_eq_false hq
        have hnext : (n + 1 ≤ j → nowj = nowi) ∧ (j < n + 1 → nowj = now2) := by
          refine ⟨fun h => hq1 (by omega), fun h => ?_⟩
          rcases Nat.lt_or_ge j n with h' | h'
          · exact hq2 h'
          · have hjn : n = j := by omega
            subst hjn
            rw [hq1 (Nat.le_refl _)]
            apply Classical.byContradiction
            intro hne
            have := hoth (fun e => hne e.symm)
            have h1 := hlo2 n x hx (by omega)
            have h2 := hhi n x hx (Nat.le_refl _)
            omega
        refine At.skip ?_
        repeat refine At.seq ?_
        refine At.region tab_ok ?_
        conv => whnf
        refine ⟨⟨by omega, by omega⟩, ?_⟩
        conv => whnf
        refine At.nextH fun w' hw => ⟨(n + 1, vL, L, mk, nowj), ⟨by simp only; omega, hpc, hnj, hnext.1, hnext.2, hmk0, by simp only; omega⟩, by simp only; omega, Le.of rfl rfl ⟨rfl, rfl, rfl, rfl, rfl, rfl, rfl, rfl, rfl, rfl, rfl, rfl, trivial⟩, hw.keep [4, 3, 1, 0] rfl rfl rfl, ⟨⟨_, _, _, rfl⟩, ⟨_, _, _, rfl⟩, ⟨_, _, _, rfl⟩, ⟨_, _, _, rfl⟩, trivial⟩, ⟨(nopL _).okH, (nopI _).okH, (nopI _).okH, (nopP _).okH, trivial⟩⟩
    have hend : nowj = now2 := by
      have hnot : ¬ ((n : Int) < ((P.map encP).length : Nat) ∧ (k : Int) < slen v2) := fun h => by
        have : (bif decide ((n : Int) < ((P.map encP).length : Nat)) then decide ((k : Int) < slen v2) else false) = true := by simpa using h
        rw [this] at hc; cases hc
      rw [List.length_map] at hnot
      apply Classical.byContradiction
      intro hne
      have hjn : n ≤ j := by
        rcases Nat.lt_or_ge j n with h | h
        · exact (hne (hq2 h)).elim
        · exact h
      have e1 := hq1 hjn
      have e2 := hoth (fun e => hne (by rw [e1, e]))
      by_cases hjP : j < P.length
      · have hx : P[j]? = some P[j] := List.getElem?_eq_getElem hjP
        have a1 := hlo2 j _ hx (by omega)
        have a2 := hhi j _ hx (Nat.le_refl _)
        obtain ⟨_, m, hm, _⟩ := hPok.ok P[j] (List.mem_of_getElem? hx)
        have := (List.getElem?_eq_some_iff.1 hm).1
        exact hnot ⟨by omega, by omega⟩
      · rw [List.drop_eq_nil_of_le (by omega)] at hp1
        simp only [Pl.runP] at hp1
        cases hp1
        exact hne e1
    subst hend
    have hmk2 : mk ≤ 100 + 1000020 * ((k + 1 : Nat) : Int) := by omega
    rw [hP2] at hrk
    repeat refine At.seq ?_
    refine At.region tab_ok ?_
    conv => whnf
    refine ⟨⟨by omega, by omega⟩, ?_⟩
    conv => whnf
    refine At.nextH fun w' hw => ⟨(k + 1, vL, L, mk, nowj, j2), ⟨by simp only; omega, hpc, hnj, by simp only; rw [show M.length + 1 - (k + 1) = M.length - k by omega]; exact hrk, hlo2, hhi2, hmk0, hmk2⟩, by simp only; omega, Le.of rfl rfl ⟨rfl, rfl, rfl, rfl, rfl, rfl, rfl, rfl, rfl, rfl, rfl, trivial⟩, hw.keep [4, 3, 1, 0] rfl rfl rfl, ⟨⟨_, _, _, rfl⟩, ⟨_, _, _, rfl⟩, ⟨_, _, _, rfl⟩, ⟨_, _, _, rfl⟩, trivial⟩, ⟨(nopL _).okH, (nopI _).okH, (nopI _).okH, (nopP _).okH, trivial⟩⟩
  have hke : k = M.length + 1 := by have := of_decide_eq_false hc; omega
  subst hke
  have hnr : now = r := by
    rw [Nat.sub_self] at hrk
    simp only [Pl.runK] at hrk
    cases hrk; rfl
  subst hnr
  have hLl := hpc.len
  have hnb : ∀ x ∈ now, 0 ≤ x ∧ x ≤ 1099511627776 := fun x hx => by
    have h2 := sumI_geq hrn x hx
    have h3 := Pl.sumI_nonneg (S := X) fun x hx => (hm0.2 x hx).1
    have h4 := R.sum
    have hmc : Pl.maxC = 1099511627776 := rfl
    exact ⟨hrn x hx, by omega⟩
  repeat refine At.seq ?_
  refine At.region tab_ok ?_
  conv => whnf
  repeat refine At.seq ?_
  refine At.block ?_
  refine At.loopH (fun p : Nat => { N := Try.f16.ntmps, sl := [(0, some (.x v1)), (7, some (.b true)), (12, some (.s (.c (.o 3 vl)))), (14, some (.s (.c (.o 4 vL)))), (15, some (.i 0)), (28, some (.i p))], gl := [], hp := [(4, .row vL 58 7 (L.map encL)), (3, .row vl 3 1 (now.map encI))], S := [], ws := w }) (fun p : Nat => p ≤ St.length) (fun p : Nat => St.length - p)
    (fun w' hw => ⟨0, Nat.zero_le _, Le.of rfl rfl ⟨rfl, rfl, rfl, rfl, rfl, rfl, trivial⟩, hw.keep [4, 3] rfl rfl rfl, ⟨⟨_, _, _, rfl⟩, ⟨_, _, _, rfl⟩, trivial⟩, ⟨(nopL _).okH, (nopI _).okH, trivial⟩⟩) ?_
  intro p hp
  repeat refine At.seq ?_
  refine At.region tab_ok ?_
  conv => whnf
  refine ⟨h1.sl, ?_⟩
  conv => whnf
  repeat refine At.seq ?_
  refine At.cond rfl (fun hc => At.skip ?_) (fun hc => At.exit ?_)
  · have hlt : p < now.length := by have := of_decide_eq_true hc; omega
    obtain ⟨x, hx⟩ : ∃ x, now[p]? = some x := ⟨_, List.getElem?_eq_getElem hlt⟩
    have hpn : p < St.length := by have := of_decide_eq_true hc; omega
    have hown : count (norm (openL (fun l => decide (l.o = (p : Int))) L)) = x := by
      have e1 := count_owned hpc.good.ord (p : Int)
      have e2 := hpc.own p (by omega) (by omega)
      unfold ownedL at e1
      rw [e1, e2]
      unfold Pl.at'
      rw [Int.toNat_natCast, hx]; rfl
    have hol := ownedL_len L (p : Int)
    unfold ownedL at hol
    repeat refine At.seq ?_
    refine At.block ?_
    repeat refine At.seq ?_
    refine At.planG tab_ok mixed [(4, .row vL 58 7 (L.map encL)), (3, .row vl 3 1 (now.map encI))] (.take 0 (.take 1 (.take 4 (.take 5 (.take 6 (.take 7 (.br 2 (.br 3 (.take 8 (.done)) (.nob)) (.nob)))))))) (by kernel_rfl) (by kernel_rfl) ⟨rfl, rfl, trivial⟩ ?_
    conv => whnf
    refine ⟨rfl, ?_⟩
    conv => whnf
    refine ⟨by omega, ?_⟩
    conv => whnf
    refine ⟨by rw [List.length_map]; omega, ?_⟩
    conv => whnf
    refine ⟨encI x, ⟨rfl, rfl, by omega, by rw [Int.toNat_natCast, List.getElem?_map, hx]; rfl⟩, ?_⟩
    conv => whnf
    refine ⟨?_, trivial⟩
    conv => whnf
    refine ansR_call b28 (rd1 (nopS _)) (fun w' hw => owned_c L p [] vL w' (slL L (hw.row (id := 4) rfl) (by omega)) (by omega)) ?_
    intro u1
    conv => whnf
    refine ⟨⟨⟨rfl, rfl, trivial⟩, fun w' hw => hw.fr⟩, ?_⟩
    conv => whnf
    refine ⟨?_, trivial⟩
    conv => whnf
    refine ans_call b27 rfl (fun w' hw => count_c _ [] u1 w' (slS _ (hw.row (id := 5) rfl) (by omega)) (by omega)) ?_
    rw [count_norm, ← count_norm, hown]
    conv => whnf
    refine ⟨⟨⟨rfl, rfl, trivial⟩, fun w' hw => hw.fr⟩, ?_⟩
    conv => whnf
    repeat refine At.seq ?_
    refine At.cond rfl (fun hq => by simp at hq) (fun hq => At.skip ?_)
    repeat refine At.seq ?_
    refine At.region tab_ok ?_
    conv => whnf
    refine ⟨⟨by omega, by omega⟩, ?_⟩
    conv => whnf
    refine At.nextH fun w' hw => ⟨p + 1, by omega, by omega, Le.of rfl rfl ⟨rfl, rfl, rfl, rfl, rfl, rfl, trivial⟩, hw.keep [4, 3] rfl rfl rfl, ⟨⟨_, _, _, rfl⟩, ⟨_, _, _, rfl⟩, trivial⟩, ⟨(nopL _).okH, (nopI _).okH, trivial⟩⟩
  have hsum : count (norm (openL (fun _ => true) L)) = Pl.sumI now := by rw [sum_owned hpc.good.ord, hpc.sum]
  repeat refine At.seq ?_
  refine At.regionG tab_ok ?_
  conv => whnf
  refine ans_call b30 rfl (fun w' hw => sum_c L [] vL w' (slL L (hw.row (id := 4) rfl) (by omega)) (by omega)) ?_
  conv => whnf
  refine ans_call b23 rfl (fun w' hw => sum30_c now [] vl w' (slN _ (hw.row (id := 3) rfl) (by omega)) (by omega) hnb) ?_
  conv => whnf
  repeat refine At.seq ?_
  refine At.ret (At.doneB tab_ok hB _ rfl fun w' hw => ⟨?_, hw.fr⟩)
  rw [hsum, decide_eq_true (show Pl.sumI now = Pl.sumI now from rfl)]
  rfl
end Go.Proofs.Ytjilbkioieicbaa


namespace Go.Proofs.Ytjilbkioieicbaa.planCoins
open Go.ChangeShapes Go.WideShapes Go.ChangeAt Go.RowKit
set_option linter.unusedVariables false
theorem own : ownKnob Try.prog.godebug = none := by kernel_rfl
set_option maxRecDepth 100000 in
theorem lifted (os : Os) (started : os.Started) (H : Type) (enc : TypeId × Value → H) :
    ReturnsInHanded {} Try.checked os 16 .any (Rows.planCoinsSpec.pre6 enc Try.prog Try.f16 Rows.planCoinsRow.domain false) (Rows.planCoinsSpec.post enc Try.prog Try.f16 false true false false) := by
  refine returnsInHanded_of_change (C := Try.checked) own started (by kernel_rfl) Try.func16
    (ChangeSpec.witness6 (enc := enc) (C := Try.checked) false ⟨#[], #[.slice none 0 0, .slice none 0 0, .slice none 0 0], []⟩ 8 (by kernel_rfl) (by kernel_rfl) (by kernel_rfl) (by kernel_rfl)) ?_
  intro W base args ds gs before hval0 hW hcnd _
  have hval : ∀ (j : Nat) t v, Try.f16.params[j]? = some t → args[j]? = some v → Value.okWide Try.prog W .any base t v := hval0
  have hW' := hW
  obtain ⟨p, q, hA0, hV, rfl, hfz, hnd⟩ := hW
  have hA : DataW.TrodAll enc Try.prog W 0 (fun _ => true) true Try.f16.params.toList args.toList ds p := hA0
  rw [Try.params16] at hA hval
  obtain ⟨v0, vs0, d0, ds0, p0, q0, hargs, rfl, rfl, h0, r0⟩ := trodAll_cons hA
  obtain ⟨v1, vs1, d1, ds1, p1, q1, rfl, rfl, rfl, h1, r1⟩ := trodAll_cons r0
  obtain ⟨v2, vs2, d2, ds2, p2, q2, rfl, rfl, rfl, h2, r2⟩ := trodAll_cons r1
  obtain ⟨rfl, rfl, rfl⟩ := trodAll_nil r2
  obtain rfl : args = #[v0, v1, v2] := by cases args; simp_all
  obtain ⟨rfl, rfl⟩ := trodVars_none hV
  have k0 := h0
  have lt0 : ∀ x ∈ p0, x.block < W.heap.size := fun x hx => hW'.lt x (by simp [hx])
  obtain ⟨l0, s0⟩ := ints30_open (okWide_slice u22 (hval 0 22 v0 rfl rfl)) h0
  have k1 := h1
  have lt1 : ∀ x ∈ p1, x.block < W.heap.size := fun x hx => hW'.lt x (by simp [hx])
  obtain ⟨l1, s1⟩ := meets30_open (okWide_slice u23 (hval 1 23 v1 rfl rfl)) h1
  have k2 := h2
  have lt2 : ∀ x ∈ p2, x.block < W.heap.size := fun x hx => hW'.lt x (by simp [hx])
  obtain ⟨l2, s2⟩ := wants30_open (okWide_slice u24 (hval 2 24 v2 rfl rfl)) h2
  clear hA0 hval0
  simp only [List.append_nil] at hW'
  refine (coins_c l0 l1 l2 v0 v1 v2 W s0 s1 s2).mono fun e W' ⟨he, hx⟩ => ?_
  subst he
  exact ⟨_, rfl, _, _, _, [], _, [], hW', trodAll_cons_mk (shut_bool u4 _) trodAll_mk0, (trodAll_cons_mk (Below.trod laid (by kernel_rfl) (of_decide_eq_true (by kernel_rfl)) k0 hx.below lt0) (trodAll_cons_mk (Below.trod laid (by kernel_rfl) (of_decide_eq_true (by kernel_rfl)) k1 hx.below lt1) (trodAll_cons_mk (Below.trod laid (by kernel_rfl) (of_decide_eq_true (by kernel_rfl)) k2 hx.below lt2) trodAll_mk0))), rfl, hx.below.frame _, fun h => by cases h⟩

theorem over : Rows.planCoinsRow.holds Try.pinned (OpenSpec.ofChange Rows.planCoinsSpec) :=
  OpenClaim.holds_of_wide 16 Try.f16 rfl rfl rfl rfl rfl rfl rfl ⟨rfl, rfl, rfl, rfl, rfl⟩ rfl rfl rfl rfl rfl (by kernel_rfl) Try.func16 (by kernel_rfl)
    (of_decide_eq_true (by kernel_rfl)) (by unfold Func.isWrapper; first | (rw [if_pos (by decide +kernel)]; kernel_rfl) | (rw [if_neg (by decide +kernel)]; exact ⟨rfl, rfl⟩))
    (fun os started H enc _ => lifted os started H enc)

/-- The statement. -/
theorem proved : Rows.PlanCoinsSaid :=
  over
#print axioms proved
end Go.Proofs.Ytjilbkioieicbaa.planCoins

