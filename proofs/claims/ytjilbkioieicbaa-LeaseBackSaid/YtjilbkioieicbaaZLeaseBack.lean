/- The law LeaseBack: for every input the call returns true and the arguments read as before; no condition. -/
import Derived.Test.YtjilbkioieicbaaMF
import Derived.Test.YtjilbkioieicbaaRows
import Derived.WalkKit
import Derived.ProofKit
import Derived.OpenShut
import Derived.Carry
/- The law RightsParts, in plain terms. -/
namespace Go.Proofs.Ytjilbkioieicbaa
open Go.Vc Rt
set_option linter.unusedVariables false
set_option linter.unusedSimpArgs false
def withS (d : Deed) (S : List Span) : Deed := { d with spans := S }
theorem nf_normal {l : List Span} (h : NF l) (hv : ∀ s ∈ l, valid s = true) : normal l = true := by
  unfold normal
  rw [List.all_eq_true]
  intro i hi
  have hi := List.mem_range.1 hi
  have e : l[i]? = some l[i] := List.getElem?_eq_getElem hi
  unfold okAt
  rw [e]
  simp only
  rw [hv l[i] (List.getElem_mem hi)]
  simp only [Bool.true_and, Bool.or_eq_true, beq_iff_eq]
  by_cases h0 : i = 0
  · exact .inl h0
  · refine .inr ?_
    have e1 : l[i - 1]? = some (l[i - 1]'(by omega)) := List.getElem?_eq_getElem (by omega)
    rw [e1]
    have hg := List.pairwise_iff_getElem.1 h.ord (i - 1) i (by omega) hi (by omega)
    have h1 := h.ne _ (List.getElem_mem hi)
    unfold gap at hg
    simp
    omega
theorem normal_one {s : Span} (h : valid s = true) : normal [s] = true := nf_normal ⟨fun x hx => by rw [List.mem_singleton.1 hx]; exact valid_lt h, by simp⟩ fun x hx => by rw [List.mem_singleton.1 hx]; exact h
theorem right_with {d : Deed} {S : List Span} (hr : right d = true) (hk : d.kind ≠ 0) (h1 : 0 < S.length) (h2 : normal S = true) : right (withS d S) = true := by
  obtain ⟨a1, a2, a3, _, _⟩ := right_parts hr
  have hb : ¬ ((withS d S).mark < 0 ∨ 1073741824 < (withS d S).mark ∨ isKey (withS d S).author = false ∨ (withS d S).spans.length = 0 ∨ normal (withS d S).spans = false) := right_base ⟨a1, a2⟩ a3 h1 h2
  unfold right at hr ⊢
  split at hr
  · cases hr
  · rw [if_neg hb]
    rw [if_neg (show ¬ (withS d S).kind = 0 from hk)]
    exact hr
theorem parts_run {d : Deed} (hr : right d = true) (hk : d.kind ≠ 0) {F : Int → Int → Option Sta} (he : errF F d = 0) : ∀ (P : List (List Span)) (l0 : List Deed) (D : Int → Int → Prop),
    (∀ S ∈ P, 0 < S.length ∧ S.length ≤ 8 ∧ normal S = true ∧ ∀ m n, Has S m n → Has d.spans m n ∧ ¬ D m n) → P.Pairwise (fun S T => ∀ m n, Has S m n → ¬ Has T m n) → (∀ x ∈ l0, x.spans.length ≤ 8) →
    (∀ m n, (D m n → sta (lotsK l0).1 m n = (F m n).map (movedS d)) ∧ (¬ D m n → sta (lotsK l0).1 m n = F m n)) →
    (∀ m n, ((D m n ∨ ∃ S ∈ P, Has S m n) → sta (lotsK (l0 ++ P.map (withS d))).1 m n = (F m n).map (movedS d)) ∧ (¬ (D m n ∨ ∃ S ∈ P, Has S m n) → sta (lotsK (l0 ++ P.map (withS d))).1 m n = F m n)) ∧ (lotsK (l0 ++ P.map (withS d))).2 = (lotsK l0).2 ++ P.map (fun _ => (0 : Int))
  | [], l0, D, _, _, _, hs => by
    simp only [List.map_nil, List.append_nil]
    refine ⟨fun m n => ⟨fun h => (hs m n).1 (h.elim id fun ⟨S, hS, _⟩ => by cases hS), fun h => (hs m n).2 fun hD => h (.inl hD)⟩, trivial⟩
  | S :: P, l0, D, hP, hp, h8, hs => by
    obtain ⟨p1, p2⟩ := List.pairwise_cons.1 hp
    obtain ⟨s1, s2, s3, s4⟩ := hP S (List.mem_cons_self ..)
    have hg := good_lots _ l0 rfl h8
    have hrS : right (withS d S) = true := right_with hr hk s1 s3
    have hcoin : ∀ m n, Has S m n → ∃ x, F m n = some x ∧ mayS x d = 0 ∧ sta (lotsK l0).1 m n = some x := fun m n hh => by
      obtain ⟨h1, h2⟩ := s4 m n hh
      obtain ⟨x, hx, hm⟩ := errF_move he hk m n h1
      exact ⟨x, hx, hm, by rw [(hs m n).2 h2]; exact hx⟩
    have e0 : errF (sta (lotsK l0).1) (withS d S) = 0 := err_0 hrS hk fun m n hh => by
      obtain ⟨x, _, h2, h3⟩ := hcoin m n hh
      exact ⟨x, h3, h2⟩
    obtain ⟨_, g2, g3⟩ := good_do (d := withS d S) hg s2
    rw [e0] at g2
    have hsn := lotsK_snoc l0 (withS d S)
    rw [g2] at hsn
    have hst : ∀ m n, (D m n ∨ Has S m n → sta (lotsK (l0 ++ [withS d S])).1 m n = (F m n).map (movedS d)) ∧ (¬ (D m n ∨ Has S m n) → sta (lotsK (l0 ++ [withS d S])).1 m n = F m n) := by
      intro m n
      rw [hsn]
      simp only
      rw [g3]
      by_cases hh : Has S m n
      · obtain ⟨x, h1, h2, h3⟩ := hcoin m n hh
        refine ⟨fun _ => ?_, fun h => (h (.inr hh)).elim⟩
        unfold stepF
        rw [if_pos e0, if_pos (show Has (withS d S).spans m n from hh), if_neg (show ¬ (withS d S).kind = 0 from hk), h3, h1]
        rfl
      · rw [coin_not (show ¬ Has (withS d S).spans m n from hh)]
        exact ⟨fun h => (hs m n).1 (h.elim id fun h => (hh h).elim), fun h => (hs m n).2 fun hD => h (.inl hD)⟩
    obtain ⟨r1, r2⟩ := parts_run hr hk he P (l0 ++ [withS d S]) (fun m n => D m n ∨ Has S m n) (fun T hT => by
      obtain ⟨t1, t2, t3, t4⟩ := hP T (List.mem_cons_of_mem _ hT)
      exact ⟨t1, t2, t3, fun m n hh => ⟨(t4 m n hh).1, fun h => h.elim (t4 m n hh).2 fun h' => p1 T hT m n h' hh⟩⟩) p2 (fun x hx => by
      rcases List.mem_append.1 hx with hx | hx
      · exact h8 x hx
      · rw [List.mem_singleton.1 hx]; exact s2) hst
    have el : l0 ++ List.map (withS d) (S :: P) = (l0 ++ [withS d S]) ++ P.map (withS d) := by simp
    rw [el]
    refine ⟨fun m n => ⟨fun h => (r1 m n).1 ?_, fun h => (r1 m n).2 fun h' => h ?_⟩, by rw [r2, hsn]; simp⟩
    · rcases h with h | ⟨T, hT, hh⟩
      · exact .inl (.inl h)
      · rcases List.mem_cons.1 hT with rfl | hT
        · exact .inl (.inr hh)
        · exact .inr ⟨T, hT, hh⟩
    · rcases h' with (h' | h') | ⟨T, hT, hh⟩
      · exact .inl h'
      · exact .inr ⟨S, List.mem_cons_self .., h'⟩
      · exact .inr ⟨T, List.mem_cons_of_mem _ hT, hh⟩
theorem parts_law {l : List Deed} {d : Deed} (h8 : ∀ x ∈ l, x.spans.length ≤ 8) (hd8 : d.spans.length ≤ 8) (hk : d.kind ≠ 0) (he : errF (sta (lotsK l).1) d = 0) {P : List (List Span)}
    (hP : ∀ S ∈ P, 0 < S.length ∧ S.length ≤ 8 ∧ normal S = true) (hp : P.Pairwise (fun S T => ∀ m n, Has S m n → ¬ Has T m n)) (hU : ∀ m n, Has d.spans m n ↔ ∃ S ∈ P, Has S m n) :
    lotsK (l ++ P.map (withS d)) = ((doB (lotsK l).1 d).1, (lotsK l).2 ++ P.map (fun _ => (0 : Int))) := by
  have hr := err_right he
  have hg := good_lots _ l rfl h8
  obtain ⟨g1, g2, g3⟩ := good_do (d := d) hg hd8
  obtain ⟨r1, r2⟩ := parts_run hr hk he P l (fun _ _ => False) (fun S hS => ⟨(hP S hS).1, (hP S hS).2.1, (hP S hS).2.2, fun m n hh => ⟨(hU m n).2 ⟨S, hS, hh⟩, id⟩⟩) hp h8 (fun m n => ⟨False.elim, fun _ => rfl⟩)
  refine Prod.ext (Good.ext (good_lots _ _ rfl fun x hx => ?_) g1 ?_) r2
  · rcases List.mem_append.1 hx with hx | hx
    · exact h8 x hx
    · obtain ⟨S, hS, rfl⟩ := List.mem_map.1 hx; exact (hP S hS).2.1
  · rw [g3]
    funext m n
    by_cases hh : Has d.spans m n
    · rw [(r1 m n).1 (.inr ((hU m n).1 hh))]
      unfold stepF
      rw [if_pos he, if_pos hh, if_neg hk]
    · rw [coin_not hh]
      exact (r1 m n).2 fun h => h.elim id fun h => hh ((hU m n).2 h)
def partsOne (S : List Span) : List (List Span) := S.map fun s => [s]
theorem one_law {l : List Deed} {d : Deed} (h8 : ∀ x ∈ l, x.spans.length ≤ 8) (hd8 : d.spans.length ≤ 8) (hk : d.kind ≠ 0) (he : errF (sta (lotsK l).1) d = 0) :
    lotsK (l ++ (partsOne d.spans).map (withS d)) = ((doB (lotsK l).1 d).1, (lotsK l).2 ++ (partsOne d.spans).map (fun _ => (0 : Int))) := by
  have hr := err_right he
  have hnf := normal_nf (right_parts hr).2.2.2.2
  have hv := normal_valid (right_parts hr).2.2.2.2
  refine parts_law h8 hd8 hk he (fun S hS => ?_) ?_ fun m n => ?_
  · obtain ⟨s, hs, rfl⟩ := List.mem_map.1 hS
    exact ⟨by simp, by simp, normal_one (hv s hs)⟩
  · refine List.pairwise_map.2 (hnf.ord.imp fun {a b} hg m n h1 h2 => ?_)
    rw [Has.one] at h1 h2
    unfold gap at hg; omega
  · constructor
    · rintro ⟨s, hs, h⟩; exact ⟨[s], List.mem_map.2 ⟨s, hs, rfl⟩, Has.one.2 h⟩
    · rintro ⟨S, hS, h⟩; obtain ⟨s, hs, rfl⟩ := List.mem_map.1 hS; exact ⟨s, hs, Has.one.1 h⟩
def some1 (S : List Span) : List (List Span) := if 0 < S.length then [S] else []
theorem some1_mem {S T : List Span} (h : T ∈ some1 S) : T = S ∧ 0 < S.length := by
  unfold some1 at h; split at h
  · exact ⟨List.mem_singleton.1 h, by assumption⟩
  · cases h
theorem some1_has {S : List Span} {m n : Int} : (∃ T ∈ some1 S, Has T m n) ↔ Has S m n := by
  constructor
  · rintro ⟨T, hT, h⟩; rw [(some1_mem hT).1] at h; exact h
  · intro h
    refine ⟨S, ?_, h⟩
    unfold some1; rw [if_pos]; simp
    obtain ⟨s, hs, _⟩ := h
    exact List.length_pos_of_mem hs
theorem two_law {l : List Deed} {d : Deed} {c : Int} (h8 : ∀ x ∈ l, x.spans.length ≤ 8) (hd8 : d.spans.length ≤ 8) (hk : d.kind ≠ 0) (he : errF (sta (lotsK l).1) d = 0) :
    lotsK (l ++ (some1 (norm (takeF (norm d.spans) c)) ++ some1 (norm (takeR (norm d.spans) c))).map (withS d)) = ((doB (lotsK l).1 d).1, (lotsK l).2 ++ (some1 (norm (takeF (norm d.spans) c)) ++ some1 (norm (takeR (norm d.spans) c))).map (fun _ => (0 : Int))) := by
  have hr := err_right he
  have hns := norm_spans hr
  have hnf := normal_nf (right_parts hr).2.2.2.2
  have hv := normal_valid (right_parts hr).2.2.2.2
  obtain ⟨t1, t2, t3, t4⟩ := take_spec (n := c) hnf hv
  rw [hns]
  have hlF : (norm (takeF d.spans c)).length ≤ 8 := Nat.le_trans (norm_len _) (by rw [takeF_len]; exact hd8)
  have hlR : (norm (takeR d.spans c)).length ≤ 8 := Nat.le_trans (norm_len _) (by rw [takeR_len]; exact hd8)
  refine parts_law h8 hd8 hk he (fun S hS => ?_) ?_ fun m n => ?_
  · rcases List.mem_append.1 hS with hS | hS
    · obtain ⟨rfl, h0⟩ := some1_mem hS; exact ⟨h0, hlF, nf_normal (norm_nf _) norm_valid⟩
    · obtain ⟨rfl, h0⟩ := some1_mem hS; exact ⟨h0, hlR, nf_normal (norm_nf _) norm_valid⟩
  · have one : ∀ S, (some1 S).Pairwise (fun S T => ∀ m n, Has S m n → ¬ Has T m n) := fun S => by unfold some1; split <;> simp
    refine List.pairwise_append.2 ⟨one _, one _, fun S hS T hT m n h1 h2 => ?_⟩
    rw [(some1_mem hS).1] at h1
    rw [(some1_mem hT).1] at h2
    exact t4 m n h1 h2
  · constructor
    · intro h
      rcases t3 m n h with h | h
      · obtain ⟨T, hT, h⟩ := some1_has.2 h; exact ⟨T, List.mem_append_left _ hT, h⟩
      · obtain ⟨T, hT, h⟩ := some1_has.2 h; exact ⟨T, List.mem_append_right _ hT, h⟩
    · rintro ⟨T, hT, h⟩
      rcases List.mem_append.1 hT with hT | hT
      · exact t1 m n (some1_has.1 ⟨T, hT, h⟩)
      · exact t2 m n (some1_has.1 ⟨T, hT, h⟩)
end Go.Proofs.Ytjilbkioieicbaa

/- The law LeaseOne, in plain terms. -/
namespace Go.Proofs.Ytjilbkioieicbaa
open Go.Vc Rt
set_option linter.unusedVariables false
set_option linter.unusedSimpArgs false
/-- Who may use a coin. -/
def usr (days : List Int) (x : Sta) : Int := if x.h = x.o then x.o else if ofK days x.h ≤ x.u then x.h else x.o
theorem mayU_iff (days : List Int) (l : Lot) (k : Int) : mayU l k (ofK days k) (ofK days l.h) = 0 ↔ l.p = -1 ∧ usr days (stL l) = k := by
  unfold mayU usr stL
  simp only
  by_cases h1 : l.p = -1
  · rw [if_neg (by simpa using h1)]
    by_cases h2 : l.h = l.o
    · rw [if_pos h2]
      by_cases h3 : k = l.o
      · subst h3
        rw [if_neg (by omega), if_neg (by omega), if_neg (by omega)]
        simp [h1]
      · rw [if_pos (by omega)]
        constructor
        · intro h; cases h
        · rintro ⟨_, h⟩; exact (h3 h.symm).elim
    · rw [if_neg h2]
      by_cases h4 : ofK days l.h ≤ l.u
      · rw [if_pos h4]
        by_cases h3 : k = l.h
        · subst h3
          rw [if_neg (by omega), if_neg (by omega), if_neg (by omega)]
          simp [h1]
        · constructor
          · intro h
            split at h
            · cases h
            · rw [if_pos ⟨h3, h4⟩] at h; cases h
          · rintro ⟨_, h⟩; exact (h3 h.symm).elim
      · rw [if_neg h4]
        by_cases h3 : k = l.o
        · subst h3
          rw [if_neg (by omega), if_neg (by omega), if_neg (by omega)]
          simp [h1]
        · constructor
          · intro h
            split at h
            · cases h
            · rename_i h5
              have hk : k = l.h := by omega
              subst hk
              rw [if_neg (by omega), if_pos ⟨h3, by omega⟩] at h; cases h
          · rintro ⟨_, h⟩; exact (h3 h.symm).elim
  · rw [if_pos h1]
    constructor
    · intro h; cases h
    · rintro ⟨h, _⟩; exact (h1 h).elim
def useK (days : List Int) (L : List Lot) (k : Int) : List Span := norm (openL (fun l => decide (usr days (stL l) = k)) L)
def useTo (days : List Int) (L : List Lot) (k : Int) : List Span := norm (openL (fun l => decide (0 ≤ usr days (stL l) ∧ usr days (stL l) < k)) L)
theorem usable_eq (days : List Int) (L : List Lot) (k : Int) : usableL L k (ofK days k) days = useK days L k := by
  unfold usableL useK openL
  congr 2
  refine List.filter_congr fun l _ => ?_
  rw [Bool.eq_iff_iff]
  simp only [decide_eq_true_eq, Bool.and_eq_true]
  exact mayU_iff days l k
theorem has_useK {L : List Lot} (h : Ord L) {days : List Int} {k m n : Int} : Has (useK days L k) m n ↔ ∃ x, sta L m n = some x ∧ x.p = -1 ∧ usr days x = k := by
  refine (has_open (p := fun l => decide (usr days (stL l) = k)) (q := fun x => decide (usr days x = k)) (fun l => rfl) h).trans ?_
  simp
theorem has_useTo {L : List Lot} (h : Ord L) {days : List Int} {k m n : Int} : Has (useTo days L k) m n ↔ ∃ x, sta L m n = some x ∧ x.p = -1 ∧ 0 ≤ usr days x ∧ usr days x < k := by
  refine (has_open (p := fun l => decide (0 ≤ usr days (stL l) ∧ usr days (stL l) < k)) (q := fun x => decide (0 ≤ usr days x ∧ usr days x < k)) (fun l => rfl) h).trans ?_
  simp
theorem use_apart {L : List Lot} (h : Ord L) (days : List Int) (k : Int) : (common (useTo days L k) (useK days L k)).length = 0 := by
  rw [common_empty]
  unfold useTo useK
  rw [norm_norm, norm_norm]
  intro m n h1 h2
  obtain ⟨x, x1, _, _, x4⟩ := (has_useTo h).1 h1
  obtain ⟨y, y1, _, y3⟩ := (has_useK h).1 h2
  rw [x1] at y1; cases y1; omega
theorem use_step {L : List Lot} (h : Ord L) (days : List Int) (k : Int) (hk : 0 ≤ k) : unionS (useTo days L k) (useK days L k) = useTo days L (k + 1) := by
  unfold unionS
  refine NF.ext (norm_nf _) (norm_nf _) fun m n => ?_
  have e : Has (norm (useTo days L k ++ useK days L k)) m n ↔ Has (useTo days L k) m n ∨ Has (useK days L k) m n := by
    rw [has_norm]
    constructor
    · rintro ⟨s, hs, _, hh⟩
      rcases List.mem_append.1 hs with hs | hs
      · exact .inl ⟨s, hs, hh⟩
      · exact .inr ⟨s, hs, hh⟩
    · rintro (⟨s, hs, hh⟩ | ⟨s, hs, hh⟩)
      · exact ⟨s, List.mem_append_left _ hs, norm_valid s hs, hh⟩
      · exact ⟨s, List.mem_append_right _ hs, norm_valid s hs, hh⟩
  rw [e, has_useTo h, has_useK h]
  show _ ↔ Has (useTo days L (k + 1)) m n
  rw [has_useTo h]
  constructor
  · rintro (⟨x, a, b, c, d⟩ | ⟨x, a, b, c⟩)
    · exact ⟨x, a, b, c, by omega⟩
    · exact ⟨x, a, b, by omega, by omega⟩
  · rintro ⟨x, a, b, c, d⟩
    by_cases e : usr days x = k
    · exact .inr ⟨x, a, b, e⟩
    · exact .inl ⟨x, a, b, c, by omega⟩
theorem usr_key {days : List Int} {x : Sta} (h1 : isKey x.o = true) (h2 : isKey x.h = true) : 0 ≤ usr days x ∧ usr days x < 200 := by
  unfold isKey at h1 h2
  simp at h1 h2
  unfold usr
  split
  · exact h1
  · split
    · exact h2
    · exact h1
theorem use_len (days : List Int) (L : List Lot) (k : Int) : (useK days L k).length ≤ L.length ∧ (useTo days L k).length ≤ L.length :=
  ⟨Nat.le_trans (norm_len _) (openL_len _ _), Nat.le_trans (norm_len _) (openL_len _ _)⟩
theorem useK_normal (days : List Int) (L : List Lot) (k : Int) : normal (useK days L k) = true := nf_normal (norm_nf _) norm_valid
theorem used_law {L : List Lot} (hg : Good L) (days : List Int) {x : Lot} (hx : x ∈ L) : count (common [x.s] (useTo days L 200)) = if x.p = -1 then x.s.t - x.s.f else 0 := by
  have hok := hg.ord.ok x hx
  have hv := lotOk_valid hok
  have hcn : norm (useTo days L 200) = useTo days L 200 := norm_norm _
  split
  · rename_i hp
    have e : common [x.s] (useTo days L 200) = [x.s] := by
      refine NF.ext (norm_nf _) ⟨fun s hs => by rw [List.mem_singleton.1 hs]; exact valid_lt hv, by simp⟩ fun m n => ?_
      show Has (common [x.s] (useTo days L 200)) m n ↔ _
      rw [has_common, hcn, Has.one]
      constructor
      · rintro ⟨h, _⟩
        obtain ⟨s, hs, _, hh⟩ := has_norm.1 h
        rw [List.mem_singleton.1 hs] at hh; exact hh
      · intro hh
        refine ⟨has_norm.2 ⟨x.s, by simp, hv, hh⟩, (has_useTo hg.ord).2 ⟨stL x, sta_some hg.ord hx (inLot_iff.2 hh), hp, ?_⟩⟩
        have hk := hg.key _ _ _ (sta_some hg.ord hx (inLot_iff.2 hh))
        exact usr_key hk.1 hk.2
    rw [e]
    unfold count
    rw [norm_id ⟨fun s hs => by rw [List.mem_singleton.1 hs]; exact valid_lt hv, by simp⟩ fun s hs => by rw [List.mem_singleton.1 hs]; exact hv]
    simp [total]
  · rename_i hp
    have e : (common [x.s] (useTo days L 200)).length = 0 := by
      rw [common_empty, hcn]
      intro m n h1 h2
      obtain ⟨s, hs, _, hh⟩ := has_norm.1 h1
      rw [List.mem_singleton.1 hs] at hh
      obtain ⟨y, y1, y2, _⟩ := (has_useTo hg.ord).1 h2
      rw [sta_some hg.ord hx (inLot_iff.2 hh)] at y1
      cases y1
      exact hp y2
    rw [List.eq_nil_of_length_eq_zero e]
    rfl
theorem useTo_zero (days : List Int) (L : List Lot) : useTo days L 0 = [] := by
  unfold useTo openL
  have : L.filter (fun l => decide (l.p = -1) && decide (0 ≤ usr days (stL l) ∧ usr days (stL l) < 0)) = [] := by
    rw [List.filter_eq_nil_iff]
    intro l _ h
    simp only [Bool.and_eq_true, decide_eq_true_eq] at h
    omega
  rw [this]; rfl
end Go.Proofs.Ytjilbkioieicbaa

/- The law LeaseBack, in plain terms. -/
namespace Go.Proofs.Ytjilbkioieicbaa
open Go.Vc Rt
set_option linter.unusedVariables false
set_option linter.unusedSimpArgs false
theorem until_back {F : Int → Int → Option Sta} {d : Deed} {seen : List Int} (h : untilF F) : untilF (freeF F d seen) := by
  unfold freeF
  split
  · exact h
  · intro m n x hx hoh
    unfold backF at hx
    split at hx
    · cases hF : F m n with
      | none => rw [hF] at hx; cases hx
      | some y =>
        rw [hF] at hx
        simp only [Option.map_some, Option.some.injEq] at hx
        subst hx
        unfold bkS at hoh ⊢
        split
        · rfl
        · rename_i hc
          rw [if_neg hc] at hoh
          exact h m n y hF hoh
    · exact h m n x hx hoh
theorem until_lease : ∀ (n : Nat) (ps : List (Deed × List Int)), ps.length = n → (∀ x ∈ ps, x.1.spans.length ≤ 8) → untilF (sta (leaseF ps).1)
  | 0, ps, hn, _ => by
    rw [List.eq_nil_of_length_eq_zero hn]
    intro m n x hx; cases hx
  | k + 1, ps, hn, hs => by
    rcases List.eq_nil_or_concat ps with rfl | ⟨qs, x, rfl⟩
    · simp at hn
    · simp only [List.concat_eq_append] at *
      have ih := until_lease k qs (by simpa using hn) fun y hy => hs y (by simp [hy])
      obtain ⟨hg, _, _⟩ := leaseF_good _ qs rfl fun y hy => hs y (by simp [hy])
      rw [leaseF_snoc]
      simp only
      rw [(good_lease hg x.1 x.2 (hs x (by simp))).2.2.1]
      unfold stepLF
      split
      · exact step_until (until_back ih)
      · exact ih
/-! ### The first coins of some -/
theorem takeF_few : ∀ (xs : List Span) (n : Int), (∀ s ∈ xs, s.f ≤ s.t) → (((takeF xs n).filter valid).length : Int) ≤ max n 0
  | [], n, _ => by simp [takeF]; omega
  | s :: xs, n, hs => by
    have ih := takeF_few xs (max n 0 - takeK n s) fun x hx => hs x (List.mem_cons_of_mem _ hx)
    have h0 := hs s (List.mem_cons_self ..)
    have hk0 : 0 ≤ takeK n s ∧ takeK n s ≤ max n 0 := by unfold takeK; omega
    simp only [takeF, List.filter_cons]
    split
    · rename_i hv
      have := valid_lt hv
      simp only at this
      simp only [List.length_cons]
      omega
    · omega
/-! ### Coins that are lent -/
theorem free_same {F : Int → Int → Option Sta} {d : Deed} {seen : List Int} (h : ∀ m n x, Has (norm d.spans) m n → F m n = some x → ¬ (x.o = d.author ∧ x.h ≠ x.o ∧ x.p = -1 ∧ x.u < ofK seen x.h)) : freeF F d seen = F := by
  unfold freeF
  split
  · rfl
  · funext m n
    unfold backF
    split
    · rename_i hh
      cases hF : F m n with
      | none => rfl
      | some x => simp only [Option.map_some, bkS]; rw [if_neg (h m n x hh hF)]
    · rfl
theorem lease_ok {L : List Lot} (hg : Good L) {d : Deed} {seen : List Int} (h8 : d.spans.length ≤ 8) {G : Int → Int → Option Sta} (hf : freeF (sta L) d seen = G) (he : errF G d = 0) (hl : ¬ Late (sta L) d) : (leaseDo d seen L).2 = 0 ∧ sta (leaseDo d seen L).1 = stepF G d := by
  obtain ⟨_, g2, g3, _, _⟩ := good_lease hg d seen h8
  have e : errLF (sta L) d seen = 0 := by unfold errLF; rw [hf, if_pos he, if_neg fun h => hl h.2]
  refine ⟨by rw [g2, e], ?_⟩
  rw [g3]; unfold stepLF; rw [if_pos e, hf]
theorem lease_late {L : List Lot} (hg : Good L) {d : Deed} {seen : List Int} (h8 : d.spans.length ≤ 8) {G : Int → Int → Option Sta} (hf : freeF (sta L) d seen = G) (he : errF G d = 0) (hk : d.kind ≠ 0) (hl : Late (sta L) d) : (leaseDo d seen L).2 = 25 := by
  obtain ⟨_, g2, _⟩ := good_lease hg d seen h8
  rw [g2]; unfold errLF; rw [hf, if_pos he, if_pos ⟨hk, hl⟩]
theorem lease_err {L : List Lot} (hg : Good L) {d : Deed} {seen : List Int} (h8 : d.spans.length ≤ 8) {G : Int → Int → Option Sta} (hf : freeF (sta L) d seen = G) {e : Int} (he : errF G d = e) (h0 : e ≠ 0) : leaseDo d seen L = (L, e) := by
  obtain ⟨_, g2, _, _, g5⟩ := good_lease hg d seen h8
  have e2 : (leaseDo d seen L).2 = e := by rw [g2]; unfold errLF; rw [hf, if_neg (by rw [he]; exact h0), he]
  exact Prod.ext (g5 (by rw [e2]; exact h0)) e2
def bLend (a b til : Int) (S : List Span) : Deed := ⟨900, 2, a, b, 0, til, S⟩
def bSpend (b day : Int) (S : List Span) : Deed := ⟨901, 3, b, 0, day, 0, S⟩
def bBack (a b day : Int) (S : List Span) : Deed := ⟨902, 1, b, a, day, 0, S⟩
def bOwn (a day : Int) (S : List Span) : Deed := ⟨903, 3, a, 0, day, 0, S⟩
structure Lent (L : List Lot) (a b til : Int) (S : List Span) : Prop where
  good : Good L
  coin : ∀ m n, Has S m n → sta L m n = some ⟨a, a, 0, -1⟩
  pos : 0 < S.length
  norm : normal S = true
  few : S.length ≤ 8
  ka : isKey a = true
  kb : isKey b = true
  ne : a ≠ b
  til0 : 0 ≤ til ∧ til ≤ 1048576
section
variable {L : List Lot} {a b til : Int} {S : List Span}
theorem Lent.nn (h : Lent L a b til S) : Rt.norm S = S := norm_id (normal_nf h.norm) (normal_valid h.norm)
theorem Lent.rL (h : Lent L a b til S) : right (bLend a b til S) = true := right_mk2 (by simp [bLend]) h.ka h.pos h.norm rfl h.kb (fun e => h.ne e.symm) h.til0
theorem Lent.lend (h : Lent L a b til S) : (leaseDo (bLend a b til S) [] L).2 = 0 ∧ Good (leaseDo (bLend a b til S) [] L).1 ∧ (∀ m n, Has S m n → sta (leaseDo (bLend a b til S) [] L).1 m n = some ⟨a, b, til, -1⟩) ∧ (∀ m n, ¬ Has S m n → sta (leaseDo (bLend a b til S) [] L).1 m n = sta L m n) := by
  have hf : freeF (sta L) (bLend a b til S) [] = sta L := free_same fun m n x hh hx hc => by
    have hh : Has (Rt.norm S) m n := hh
    rw [h.nn] at hh
    rw [h.coin m n hh] at hx
    cases hx
    exact hc.2.1 rfl
  have he : errF (sta L) (bLend a b til S) = 0 := err_0 h.rL (by simp [bLend]) fun m n hh => ⟨_, h.coin m n hh, by
    unfold mayS bLend
    simp only
    rw [if_neg (by simp), if_neg (by simp), if_neg (by simp), if_neg (by simp)]⟩
  have hl : ¬ Late (sta L) (bLend a b til S) := fun ⟨m, n, x, hh, hx, h1, h2, _⟩ => by
    have hh : Has (Rt.norm S) m n := hh
    rw [h.nn] at hh
    rw [h.coin m n hh] at hx
    cases hx
    exact h2 rfl
  obtain ⟨r1, r2⟩ := lease_ok h.good (d := bLend a b til S) h.few hf he hl
  refine ⟨r1, (good_lease h.good _ [] h.few).1, fun m n hh => ?_, fun m n hh => ?_⟩
  · rw [r2]
    rcases coin_of he hh with ⟨hk, _⟩ | ⟨_, x, e1, _, _, _, e5⟩
    · cases hk
    · rw [e5, movedS_2 rfl]
      rw [h.coin m n hh] at e1
      cases e1
      rfl
  · rw [r2]; exact coin_not hh
variable {L1 : List Lot} {day saw : Int}
theorem Lent.spend (h : Lent L a b til S) (g1 : Good L1) (c1 : ∀ m n, Has S m n → sta L1 m n = some ⟨a, b, til, -1⟩) : (leaseDo (bSpend b day S) [] L1).2 = if til < day then 25 else 0 := by
  have hf : freeF (sta L1) (bSpend b day S) [] = sta L1 := free_same fun m n x hh hx hc => by
    have hh : Has (Rt.norm S) m n := hh
    rw [h.nn] at hh
    rw [c1 m n hh] at hx
    cases hx
    exact h.ne hc.1
  have hr : right (bSpend b day S) = true := right_mk3 (by simp [bSpend]) h.kb h.pos h.norm rfl
  have he : errF (sta L1) (bSpend b day S) = 0 := err_0 hr (by simp [bSpend]) fun m n hh => ⟨_, c1 m n hh, by
    unfold mayS bSpend
    simp only
    rw [if_neg (by simp), if_neg (by simp), if_neg (by simp), if_neg (by simp)]⟩
  have hl : Late (sta L1) (bSpend b day S) ↔ til < day := by
    constructor
    · rintro ⟨m, n, x, hh, hx, h1, h2, h3⟩
      have hh : Has (Rt.norm S) m n := hh
      rw [h.nn] at hh
      rw [c1 m n hh] at hx
      cases hx
      exact h3
    · intro hd
      obtain ⟨m, n, hh⟩ := right_coin hr
      exact ⟨m, n, _, (by show Has (Rt.norm S) m n; rw [h.nn]; exact hh), c1 m n hh, rfl, h.ne, hd⟩
  split
  · rename_i hd; exact lease_late g1 (d := bSpend b day S) h.few hf he (by simp [bSpend]) (hl.2 hd)
  · rename_i hd; exact (lease_ok g1 (d := bSpend b day S) h.few hf he fun h' => hd (hl.1 h')).1
theorem Lent.back (h : Lent L a b til S) (g1 : Good L1) (c1 : ∀ m n, Has S m n → sta L1 m n = some ⟨a, b, til, -1⟩) (c2 : ∀ m n, ¬ Has S m n → sta L1 m n = sta L m n) : (leaseDo (bBack a b day S) [] L1).2 = (if til < day then 25 else 0) ∧ (¬ til < day → (leaseDo (bBack a b day S) [] L1).1 = L) := by
  have hf : freeF (sta L1) (bBack a b day S) [] = sta L1 := free_same fun m n x hh hx hc => by
    have hh : Has (Rt.norm S) m n := hh
    rw [h.nn] at hh
    rw [c1 m n hh] at hx
    cases hx
    exact h.ne hc.1
  have hr : right (bBack a b day S) = true := right_mk1 (by simp [bBack]) h.kb h.pos h.norm rfl h.ka h.ne
  have he : errF (sta L1) (bBack a b day S) = 0 := err_0 hr (by simp [bBack]) fun m n hh => ⟨_, c1 m n hh, by
    unfold mayS bBack
    simp only
    rw [if_neg (by simp), if_neg (by simp), if_neg (by simp), if_neg (by simp)]⟩
  have hl : Late (sta L1) (bBack a b day S) ↔ til < day := by
    constructor
    · rintro ⟨m, n, x, hh, hx, h1, h2, h3⟩
      have hh : Has (Rt.norm S) m n := hh
      rw [h.nn] at hh
      rw [c1 m n hh] at hx
      cases hx
      exact h3
    · intro hd
      obtain ⟨m, n, hh⟩ := right_coin hr
      exact ⟨m, n, _, (by show Has (Rt.norm S) m n; rw [h.nn]; exact hh), c1 m n hh, rfl, h.ne, hd⟩
  by_cases hd : til < day
  · rw [if_pos hd]; exact ⟨lease_late g1 (d := bBack a b day S) h.few hf he (by simp [bBack]) (hl.2 hd), fun h' => (h' hd).elim⟩
  · rw [if_neg hd]
    obtain ⟨r1, r2⟩ := lease_ok g1 (d := bBack a b day S) h.few hf he fun h' => hd (hl.1 h')
    refine ⟨r1, fun _ => Good.ext (good_lease g1 _ [] h.few).1 h.good ?_⟩
    rw [r2]
    funext m n
    by_cases hh : Has S m n
    · rcases coin_of he hh with ⟨hk, _⟩ | ⟨_, x, e1, _, _, _, e5⟩
      · cases hk
      · rw [e5, movedS_1 rfl, h.coin m n hh]
        rw [c1 m n hh] at e1
        cases e1
        rfl
    · rw [coin_not hh, c2 m n hh]
theorem Lent.own0 (h : Lent L a b til S) (seen : List Int) : (leaseDo (bOwn a day S) seen L).2 = 0 ∧ sta (leaseDo (bOwn a day S) seen L).1 = stepF (sta L) (bOwn a day S) ∧ errF (sta L) (bOwn a day S) = 0 := by
  have hf : freeF (sta L) (bOwn a day S) seen = sta L := free_same fun m n x hh hx hc => by
    have hh : Has (Rt.norm S) m n := hh
    rw [h.nn] at hh
    rw [h.coin m n hh] at hx
    cases hx
    exact hc.2.1 rfl
  have hr : right (bOwn a day S) = true := right_mk3 (by simp [bOwn]) h.ka h.pos h.norm rfl
  have he : errF (sta L) (bOwn a day S) = 0 := err_0 hr (by simp [bOwn]) fun m n hh => ⟨_, h.coin m n hh, by
    unfold mayS bOwn
    simp only
    rw [if_neg (by simp), if_neg (by simp), if_neg (by simp), if_neg (by simp)]⟩
  have hl : ¬ Late (sta L) (bOwn a day S) := fun ⟨m, n, x, hh, hx, h1, h2, _⟩ => by
    have hh : Has (Rt.norm S) m n := hh
    rw [h.nn] at hh
    rw [h.coin m n hh] at hx
    cases hx
    exact h2 rfl
  obtain ⟨r1, r2⟩ := lease_ok h.good (d := bOwn a day S) h.few hf he hl
  exact ⟨r1, r2, he⟩
theorem Lent.own1 (h : Lent L a b til S) (g1 : Good L1) (c1 : ∀ m n, Has S m n → sta L1 m n = some ⟨a, b, til, -1⟩) (c2 : ∀ m n, ¬ Has S m n → sta L1 m n = sta L m n) {seen : List Int} (hs : ofK seen b = saw) :
    (til < saw → (leaseDo (bOwn a day S) seen L1).2 = 0 ∧ (leaseDo (bOwn a day S) seen L1).1 = (leaseDo (bOwn a day S) seen L).1) ∧ (¬ til < saw → leaseDo (bOwn a day S) seen L1 = (L1, 28)) := by
  obtain ⟨_, o2, o3⟩ := h.own0 (day := day) seen
  have hr := err_right o3
  refine ⟨fun hd => ?_, fun hd => ?_⟩
  · have hf : freeF (sta L1) (bOwn a day S) seen = sta L := by
      unfold freeF
      rw [if_neg (by simp [bOwn])]
      funext m n
      unfold backF
      by_cases hh : Has S m n
      · rw [if_pos (show Has (Rt.norm (bOwn a day S).spans) m n by show Has (Rt.norm S) m n; rw [h.nn]; exact hh), c1 m n hh, h.coin m n hh]
        simp only [Option.map_some, bkS]
        rw [if_pos (by refine ⟨?_, ?_, ?_, ?_⟩ <;> first | rfl | trivial | exact fun e => h.ne e.symm | (rw [hs]; exact hd))]
      · rw [if_neg (fun h' => hh (by have h' : Has (Rt.norm S) m n := h'; rw [h.nn] at h'; exact h'))]
        exact c2 m n hh
    have hl : ¬ Late (sta L1) (bOwn a day S) := fun ⟨m, n, x, hh, hx, h1, _⟩ => by
      have hh : Has (Rt.norm S) m n := hh
      rw [h.nn] at hh
      rw [c1 m n hh] at hx
      cases hx
      exact h.ne h1.symm
    obtain ⟨r1, r2⟩ := lease_ok g1 (d := bOwn a day S) h.few hf o3 hl
    exact ⟨r1, Good.ext (good_lease g1 _ seen h.few).1 (good_lease h.good _ seen h.few).1 (by rw [r2, o2])⟩
  · have hf : freeF (sta L1) (bOwn a day S) seen = sta L1 := free_same fun m n x hh hx hc => by
      have hh : Has (Rt.norm S) m n := hh
      rw [h.nn] at hh
      rw [c1 m n hh] at hx
      cases hx
      simp only [hs] at hc
      exact hd hc.2.2.2
    have he : errF (sta L1) (bOwn a day S) = 28 := err_28 hr (by simp [bOwn]) fun m n hh => ⟨_, c1 m n hh, by
      unfold mayS bOwn
      simp only
      rw [if_neg (by simp), if_neg (by simp), if_pos fun e => h.ne e.symm]⟩
    exact lease_err g1 (d := bOwn a day S) h.few hf he (by decide)
end
end Go.Proofs.Ytjilbkioieicbaa

/- The law LeaseBack (stokvellaw28): what the call computes. -/
namespace Go.Proofs.Ytjilbkioieicbaa
open Go.Vc Rt
set_option linter.unusedVariables false
set_option linter.unusedSimpArgs false
/-- The coins that a key owns and holds. -/
def mineL (a : Int) (L : List Lot) : List Span := (L.filter fun l => decide (l.o = a) && decide (l.h = a) && decide (l.p = -1)).map (·.s)
theorem mine_snoc {a : Int} {L : List Lot} {k : Nat} {x : Lot} (hx : L[k]? = some x) : mineL a (L.take (k + 1)) = mineL a (L.take k) ++ (if (decide (x.o = a) && decide (x.h = a) && decide (x.p = -1)) = true then [x.s] else []) := by
  unfold mineL
  rw [List.take_add_one, hx, List.filter_append, List.map_append]
  congr 1
  simp only [Option.toList_some, List.filter_cons, List.filter_nil]
  split <;> rfl
theorem mine_len (a : Int) (L : List Lot) : (mineL a L).length ≤ L.length := by unfold mineL; rw [List.length_map]; exact List.length_filter_le ..
theorem mine_coin {a : Int} {L : List Lot} (hg : Good L) (hu : untilF (sta L)) {k : Int} {m n : Int} (h : Has (norm (takeF (norm (mineL a L)) k)) m n) : sta L m n = some ⟨a, a, 0, -1⟩ := by
  have h1 := (take_spec (n := k) (norm_nf (mineL a L)) norm_valid).1 m n h
  obtain ⟨s, hs, _, hh⟩ := has_norm.1 h1
  obtain ⟨l, hl, rfl⟩ := List.mem_map.1 hs
  obtain ⟨hl, hc⟩ := List.mem_filter.1 hl
  simp only [Bool.and_eq_true, decide_eq_true_eq] at hc
  have e := sta_some hg.ord hl (inLot_iff.2 hh)
  rw [e]
  have hu0 := hu m n _ e (by show l.o = l.h; omega)
  exact congrArg some (Sta.ext' hc.1.1 hc.1.2 hu0 hc.2)
theorem take_few {xs : List Span} {n : Int} (hn : 0 ≤ n ∧ n ≤ 8) : (norm (takeF (norm xs) n)).length ≤ 8 := by
  have h1 := norm_len_valid (takeF (norm xs) n)
  have h2 := takeF_few (norm xs) n fun s hs => by have := valid_lt (norm_valid s hs); omega
  omega
theorem leaseBack_c (l : List Deed) (key who n : Int) (til day saw : Int) (v : Value) (w : World) (h : SlOf deT [] w v l) (hkey : 0 ≤ key ∧ key ≤ 255) (hwho : 0 ≤ who ∧ who ≤ 255) (hnn : 0 ≤ n ∧ n ≤ 255) (hsaw : inR saw) : Ans Try.prog 15 [v, .int .u8 key, .int .u8 who, .int .u8 n, vI til, vI day, vI saw] (.b true) w := by
  have hl := h.len
  refine calls_plainB [.x v, .x (.int .u8 key), .x (.int .u8 who), .x (.int .u8 n), .i til, .i day, .i saw] Try.func15 rfl rfl (Nat.le_of_ble_eq_true rfl) rfl fun B hB => ?_
  repeat refine At.seq ?_
  refine At.region tab_ok ?_
  conv => whnf
  repeat refine At.seq ?_
  refine At.region tab_ok ?_
  conv => whnf
  refine ans_call b42 rfl (fun w' hw => small28_c w') ?_
  conv => whnf
  have hna : 0 ≤ key % 5 ∧ key % 5 ≤ 4 := by omega
  have hnb : 0 ≤ who % 5 ∧ who % 5 ≤ 4 := by omega
  repeat refine At.seq ?_
  refine At.region tab_ok ?_
  conv => whnf
  refine ⟨by omega, ?_⟩
  conv => whnf
  refine ⟨by decide, ?_⟩
  conv => whnf
  refine ⟨⟨by omega, by omega⟩, ?_⟩
  conv => whnf
  repeat refine At.seq ?_
  refine At.region tab_ok ?_
  conv => whnf
  refine ⟨by omega, ?_⟩
  conv => whnf
  refine ⟨by decide, ?_⟩
  conv => whnf
  refine ⟨⟨by omega, by omega⟩, ?_⟩
  conv => whnf
  generalize key % 5 = a at *
  generalize who % 5 = b at *
  repeat refine At.seq ?_
  refine At.region tab_ok ?_
  conv => whnf
  refine ans_call b25 rfl (fun w' hw => few_c l 12 [] v w' (h.fr hw.fr)) ?_
  conv => whnf
  repeat refine At.seq ?_
  refine At.cond rfl (fun hq => ?_) (fun hq => ?_)
  · repeat refine At.seq ?_
    refine At.region tab_ok ?_
    conv => whnf
    repeat refine At.seq ?_
    refine At.ret (At.doneB tab_ok hB _ rfl fun w' hw => ⟨rfl, hw.fr⟩)
  simp only [bor, Bool.or_eq_false_iff, Bool.not_eq_false', decide_eq_false_iff_not] at hq
  obtain ⟨⟨⟨⟨⟨⟨hfew, hab⟩, ht1⟩, ht2⟩, hd1⟩, hd2⟩, hs1⟩ := hq
  obtain ⟨hn, hsp⟩ := few_spec hfew
  have hn : l.length ≤ 12 := by omega
  have hun := until_lease _ (pairUp l []) rfl fun x hx => hsp x.1 (pairUp_mem hx)
  obtain ⟨hg, hlen, hel⟩ := leaseF_good _ (pairUp l []) rfl fun x hx => hsp x.1 (pairUp_mem hx)
  rw [pairUp_len] at hlen hel
  refine At.skip ?_
  repeat refine At.seq ?_
  refine At.region tab_ok ?_
  conv => whnf
  refine ansR_call b44 (rd2 (nopL _) (nopI _)) (fun w' hw => leaseLots_c l [] v (.slice none 0 0) w' (h.fr hw.fr) (nilSe w') (by omega) hsp) ?_
  unfold leaseK
  intro vl
  conv => whnf
  intro ve
  conv => whnf
  generalize leaseF (pairUp l []) = P at *
  obtain ⟨L, es⟩ := P
  simp only at hg hlen hel hun ⊢
  repeat refine At.seq ?_
  refine At.region tab_ok ?_
  conv => whnf
  repeat refine At.seq ?_
  refine At.region tab_ok ?_
  conv => whnf
  repeat refine At.seq ?_
  refine At.block ?_
  refine At.loopH (fun p : Nat × Value => { N := Try.f15.ntmps, sl := [(3, some (.x ((.int .u8 n)))), (4, some (.i til)), (5, some (.i day)), (6, some (.i saw)), (15, some (.b true)), (16, some (.i a)), (17, some (.i b)), (18, some (.s (.c (.o 0 vl)))), (20, some (.s (.c (.o 1 p.2)))), (21, some (.i p.1))], gl := [], hp := [(1, .row p.2 56 3 ((mineL a (L.take p.1)).map encS)), (0, .row vl 58 7 (L.map encL))], S := [], ws := w }) (fun p : Nat × Value => p.1 ≤ L.length) (fun p : Nat × Value => L.length - p.1)
    (fun w' hw => ⟨(0, .slice none 0 0), Nat.zero_le _, Le.of rfl rfl ⟨rfl, rfl, rfl, rfl, rfl, rfl, rfl, rfl, rfl, rfl, trivial⟩, Holds.nilK hw [0] rfl rfl rfl, ⟨⟨_, _, _, rfl⟩, ⟨_, _, _, rfl⟩, trivial⟩, ⟨(nopS _).okH, (nopL _).okH, trivial⟩⟩) ?_
  rintro ⟨k, vm⟩ hk
  simp only at hk ⊢
  repeat refine At.seq ?_
  refine At.region tab_ok ?_
  conv => whnf
  refine ⟨rfl, ?_⟩
  conv => whnf
  repeat refine At.seq ?_
  refine At.cond rfl (fun hc => At.skip ?_) (fun hc => At.exit ?_)
  · have hlt : k < L.length := by have := of_decide_eq_true hc; (try simp only [List.length_map] at this); omega
    obtain ⟨x, hx⟩ : ∃ x, L[k]? = some x := ⟨_, List.getElem?_eq_getElem hlt⟩
    have hst := mine_snoc (a := a) hx
    have hml := mine_len a (L.take k)
    simp only [List.length_take] at hml
    generalize mineL a (L.take k) = out at *
    have hget : (L.map encL)[((k : Nat) : Int).toNat]? = some (encL x) := by rw [Int.toNat_natCast, List.getElem?_map, hx]; rfl
    repeat refine At.seq ?_
    refine At.block ?_
    repeat refine At.seq ?_
    refine At.region tab_ok ?_
    conv => whnf
    refine ⟨rfl, ?_⟩
    conv => whnf
    refine ⟨by omega, ?_⟩
    conv => whnf
    refine ⟨by (try simp only [List.length_map]); omega, ?_⟩
    conv => whnf
    refine ⟨encL x, ⟨rfl, rfl, by omega, by rw [Int.toNat_natCast, List.getElem?_map, hx]; rfl⟩, ?_⟩
    conv => whnf
    refine ⟨by simp only [gimp]; intros; trivial, ?_⟩
    conv => whnf
    refine ⟨by simp only [gimp]; intros; omega, ?_⟩
    conv => whnf
    refine ⟨by simp only [gimp]; intros; simp; omega, ?_⟩
    conv => whnf
    refine ⟨encL x, by simp only [gimp]; intros; exact ⟨trivial, trivial, by omega, hget⟩, ?_⟩
    conv => whnf
    refine ⟨by simp only [gimp]; intros; trivial, ?_⟩
    conv => whnf
    refine ⟨by simp only [gimp]; intros; omega, ?_⟩
    conv => whnf
    refine ⟨by simp only [gimp]; intros; simp; omega, ?_⟩
    conv => whnf
    refine ⟨encL x, by simp only [gimp]; intros; exact ⟨trivial, trivial, by omega, hget⟩, ?_⟩
    conv => whnf
    repeat refine At.seq ?_
    refine At.cond rfl (fun hq => ?_) (fun hq => ?_)
    · have hq' : (decide (x.o = a) && decide (x.h = a) && decide (x.p = -1)) = true := by simp only [band] at hq; exact hq
      repeat refine At.seq ?_
      refine At.region tab_ok ?_
      conv => whnf
      refine ⟨rfl, ?_⟩
      conv => whnf
      refine ⟨by omega, ?_⟩
      conv => whnf
      refine ⟨by (try simp only [List.length_map]); omega, ?_⟩
      conv => whnf
      refine ⟨encL x, ⟨rfl, rfl, by omega, by rw [Int.toNat_natCast, List.getElem?_map, hx]; rfl⟩, ?_⟩
      conv => whnf
      intro v2
      conv => whnf
      refine ⟨rfl, ?_⟩
      conv => whnf
      refine ⟨⟨rfl, by simp; omega⟩, ?_⟩
      conv => whnf
      intro v3
      conv => whnf
      repeat refine At.seq ?_
      refine At.region tab_ok ?_
      conv => whnf
      refine ⟨⟨by omega, by omega⟩, ?_⟩
      conv => whnf
      refine At.nextH fun w' hw => ⟨(k + 1, v3), by simp only; omega, by simp only; omega, Le.of rfl rfl ⟨rfl, rfl, rfl, rfl, rfl, rfl, rfl, rfl, rfl, rfl, trivial⟩, hw.keep [1, 0] (by simp only; rw [hst, if_pos hq', List.map_append]; rfl) rfl rfl, ⟨⟨_, _, _, rfl⟩, ⟨_, _, _, rfl⟩, trivial⟩, ⟨(nopS _).okH, (nopL _).okH, trivial⟩⟩
    · have hq' : ¬ (decide (x.o = a) && decide (x.h = a) && decide (x.p = -1)) = true := by simp only [band] at hq; rw [hq]; decide
      refine At.skip ?_
      repeat refine At.seq ?_
      refine At.region tab_ok ?_
      conv => whnf
      refine ⟨⟨by omega, by omega⟩, ?_⟩
      conv => whnf
      refine At.nextH fun w' hw => ⟨(k + 1, vm), by simp only; omega, by simp only; omega, Le.of rfl rfl ⟨rfl, rfl, rfl, rfl, rfl, rfl, rfl, rfl, rfl, rfl, trivial⟩, hw.keep [1, 0] (by simp only; rw [hst, if_neg hq', List.append_nil]; rfl) rfl rfl, ⟨⟨_, _, _, rfl⟩, ⟨_, _, _, rfl⟩, trivial⟩, ⟨(nopS _).okH, (nopL _).okH, trivial⟩⟩
  have hge : k = L.length := by have := of_decide_eq_false hc; simp only [List.length_map] at this; omega
  subst hge
  rw [List.take_length]
  have hml := mine_len a L
  repeat refine At.seq ?_
  refine At.region tab_ok ?_
  conv => whnf
  refine ⟨by omega, ?_⟩
  conv => whnf
  refine ⟨by decide, ?_⟩
  conv => whnf
  refine ⟨⟨by omega, by omega⟩, ?_⟩
  conv => whnf
  refine ⟨⟨by omega, by omega⟩, ?_⟩
  conv => whnf
  refine ansR_call b39 (rd2 (nopS _) (nopS _)) (fun w' hw => takeS_c (mineL a L) (1 + n % 8) [] vm w' (slS _ (hw.row (id := 1) rfl) (by omega)) (by omega) ⟨by omega, by omega⟩) ?_
  intro vs
  conv => whnf
  intro vr
  conv => whnf
  have hS8 := take_few (xs := mineL a L) (n := 1 + n % 8) (by omega)
  have hcoin := fun m c => mine_coin hg hun (k := 1 + n % 8) (m := m) (n := c) (a := a)
  have hSn : normal (norm (takeF (norm (mineL a L)) (1 + n % 8))) = true := nf_normal (norm_nf _) norm_valid
  generalize norm (takeF (norm (mineL a L)) (1 + n % 8)) = S at *
  generalize norm (takeR (norm (mineL a L)) (1 + n % 8)) = S' at *
  repeat refine At.seq ?_
  refine At.region tab_ok ?_
  conv => whnf
  refine ⟨rfl, ?_⟩
  conv => whnf
  repeat refine At.seq ?_
  refine At.cond rfl (fun hq => ?_) (fun hq => At.skip ?_)
  · repeat refine At.seq ?_
    refine At.region tab_ok ?_
    conv => whnf
    repeat refine At.seq ?_
    refine At.ret (At.doneB tab_ok hB _ rfl fun w' hw => ⟨rfl, hw.fr⟩)
  have hpos : 0 < S.length := by have := of_decide_eq_false hq; simp at this; exact List.length_pos_iff.2 this
  have key1 : ∀ c : Int, 0 ≤ c ∧ c ≤ 4 → isKey c = true := fun c hc => by unfold isKey; simp; omega
  have hL : Lent L a b til S := ⟨hg, hcoin, hpos, hSn, hS8, key1 a hna, key1 b hnb, hab, by omega⟩
  obtain ⟨e1, g1, c1, c2⟩ := hL.lend
  have hlen1 := (good_lease hg (bLend a b til S) [] hS8).2.2.2.1
  have e2 := hL.spend (day := day) g1 c1
  obtain ⟨e3, e3'⟩ := hL.back (day := day) g1 c1 c2
  have ok1 := leaseF_ok hg (by omega) (d := bLend a b til S) (seen := []) hS8
  repeat refine At.seq ?_
  refine At.region tab_ok ?_
  conv => whnf
  intro b24
  conv => whnf
  repeat refine At.seq ?_
  refine At.region tab_ok ?_
  conv => whnf
  refine ansR_call b48 (rdP (nopL _)) (fun w' hw => leaseDo_c L (bLend a b til S) [] vl vs (.slice none 0 0) w' (slL L (hw.row (id := 0) rfl) (by omega)) (slS S (hw.row (id := 2) rfl) (by omega)) (nilI w') (by omega) hS8 ok1.1 ok1.2) ?_
  rw [e1]
  intro vl1
  conv => whnf
  have own1 := fun (seen : List Int) => hL.own1 (day := day) (saw := saw) (seen := seen) g1 c1 c2
  generalize (leaseDo (bLend a b til S) [] L).1 = L1 at *
  have ok2 := leaseF_ok g1 (by omega) (d := bSpend b day S) (seen := []) hS8
  have ok3 := leaseF_ok g1 (by omega) (d := bBack a b day S) (seen := []) hS8
  repeat refine At.seq ?_
  refine At.region tab_ok ?_
  conv => whnf
  intro b27
  conv => whnf
  repeat refine At.seq ?_
  refine At.region tab_ok ?_
  conv => whnf
  refine ansR_call b48 (rdP (nopL _)) (fun w' hw => leaseDo_c L1 (bSpend b day S) [] vl1 vs (.slice none 0 0) w' (slL L1 (hw.row (id := 5) rfl) (by omega)) (slS S (hw.row (id := 2) rfl) (by omega)) (nilI w') (by omega) hS8 ok2.1 ok2.2) ?_
  rw [e2]
  intro v7
  conv => whnf
  repeat refine At.seq ?_
  refine At.region tab_ok ?_
  conv => whnf
  intro b30
  conv => whnf
  repeat refine At.seq ?_
  refine At.region tab_ok ?_
  conv => whnf
  refine ansR_call b48 (rdP (nopL _)) (fun w' hw => leaseDo_c L1 (bBack a b day S) [] vl1 vs (.slice none 0 0) w' (slL L1 (hw.row (id := 5) rfl) (by omega)) (slS S (hw.row (id := 2) rfl) (by omega)) (nilI w') (by omega) hS8 ok3.1 ok3.2) ?_
  rw [e3]
  intro vg
  conv => whnf
  have hlen3 := (good_lease g1 (bBack a b day S) [] hS8).2.2.2.1
  generalize (leaseDo (bBack a b day S) [] L1).1 = G at *
  repeat refine At.seq ?_
  refine At.region tab_ok ?_
  conv => whnf
  repeat refine At.seq ?_
  refine At.region tab_ok ?_
  conv => whnf
  repeat refine At.seq ?_
  refine At.join (fun q : Unit => { N := Try.f15.ntmps, sl := [(4, some (.i til)), (5, some (.i day)), (6, some (.i saw)), (15, some (.b true)), (16, some (.i a)), (17, some (.i b)), (18, some (.s (.c (.o 0 vl)))), (22, some (.s (.c (.o 2 vs)))), (25, some (.s (.c (.o 5 vl1)))), (26, some (.i 0)), (29, some (.i (if til < day then 25 else 0))), (31, some (.s (.c (.o 9 vg)))), (32, some (.i (if til < day then 25 else 0))), (33, some (.i (if til < day then 25 else 0)))], gl := [], hp := [(9, .row vg 58 7 (G.map encL)), (5, .row vl1 58 7 (L1.map encL)), (2, .row vs 56 3 (S.map encS)), (0, .row vl 58 7 (L.map encL))], S := [], ws := w }) (fun q : Unit => True) ?_ ?_
  · repeat refine At.seq ?_
    refine At.cond rfl (fun hq => ?_) (fun hq => ?_)
    · have hd := of_decide_eq_true hq
      repeat refine At.seq ?_
      refine At.region tab_ok ?_
      conv => whnf
      refine At.meet fun w' hw => ⟨(), trivial, Le.of rfl rfl ⟨rfl, rfl, rfl, rfl, rfl, rfl, rfl, rfl, rfl, rfl, rfl, rfl, rfl, congrArg (Value.int .i64) (by rw [if_pos hd]), trivial⟩, hw.keep [9, 5, 2, 0] rfl rfl rfl, ⟨⟨_, _, _, rfl⟩, ⟨_, _, _, rfl⟩, ⟨_, _, _, rfl⟩, ⟨_, _, _, rfl⟩, trivial⟩, ⟨(nopL _).okH, (nopL _).okH, (nopS _).okH, (nopL _).okH, trivial⟩⟩
    · have hd := of_decide_eq_false hq
      refine At.skip ?_
      refine At.meet fun w' hw => ⟨(), trivial, Le.of rfl rfl ⟨rfl, rfl, rfl, rfl, rfl, rfl, rfl, rfl, rfl, rfl, rfl, rfl, rfl, congrArg (Value.int .i64) (by rw [if_neg hd]), trivial⟩, hw.keep [9, 5, 2, 0] rfl rfl rfl, ⟨⟨_, _, _, rfl⟩, ⟨_, _, _, rfl⟩, ⟨_, _, _, rfl⟩, ⟨_, _, _, rfl⟩, trivial⟩, ⟨(nopL _).okH, (nopL _).okH, (nopS _).okH, (nopL _).okH, trivial⟩⟩
  intro _ _
  repeat refine At.seq ?_
  refine At.join (fun q : Unit => { N := Try.f15.ntmps, sl := [(4, some (.i til)), (5, some (.i day)), (6, some (.i saw)), (15, some (.b true)), (16, some (.i a)), (17, some (.i b)), (18, some (.s (.c (.o 0 vl)))), (22, some (.s (.c (.o 2 vs)))), (25, some (.s (.c (.o 5 vl1)))), (188, some (.b false))], gl := [], hp := [(5, .row vl1 58 7 (L1.map encL)), (2, .row vs 56 3 (S.map encS)), (0, .row vl 58 7 (L.map encL))], S := [], ws := w }) (fun q : Unit => True) ?_ ?_
  · by_cases hd : til < day
    · rw [if_pos hd]
      repeat refine At.seq ?_
      refine At.regionG tab_ok ?_
      conv => whnf
      refine At.meet fun w' hw => ⟨(), trivial, Le.of rfl rfl ⟨rfl, rfl, rfl, rfl, rfl, rfl, rfl, rfl, rfl, rfl, trivial⟩, hw.keep [5, 2, 0] rfl rfl rfl, ⟨⟨_, _, _, rfl⟩, ⟨_, _, _, rfl⟩, ⟨_, _, _, rfl⟩, trivial⟩, ⟨(nopL _).okH, (nopS _).okH, (nopL _).okH, trivial⟩⟩
    · rw [if_neg hd]
      have hG := e3' hd
      subst hG
      repeat refine At.seq ?_
      refine At.regionG tab_ok ?_
      conv => whnf
      refine ans_call b31 (r := .b true) rfl (fun w' hw => by
        have := sameLots_c G G [] [] vg vl w' (slL G (hw.row (id := 9) rfl) (by omega)) (slL G (hw.row (id := 0) rfl) (by omega))
        rw [decide_eq_true (rfl : G = G)] at this
        exact this) ?_
      conv => whnf
      refine At.meet fun w' hw => ⟨(), trivial, Le.of rfl rfl ⟨rfl, rfl, rfl, rfl, rfl, rfl, rfl, rfl, rfl, rfl, trivial⟩, hw.keep [5, 2, 0] rfl rfl rfl, ⟨⟨_, _, _, rfl⟩, ⟨_, _, _, rfl⟩, ⟨_, _, _, rfl⟩, trivial⟩, ⟨(nopL _).okH, (nopS _).okH, (nopL _).okH, trivial⟩⟩
  intro _ _
  repeat refine At.seq ?_
  refine At.cond (t := false) rfl (fun hq => by cases hq) (fun hq => At.skip ?_)
  obtain ⟨sn, hsn⟩ : ∃ sn, sn = (List.replicate 5 (0 : Int)).set b.toNat saw := ⟨_, rfl⟩
  have hsl : sn.length = 5 := by rw [hsn]; simp
  have hofk : ofK sn b = saw := by
    unfold ofK
    rw [if_neg (by omega), List.getD_eq_getElem?_getD, hsn, List.getElem?_set_self (by simp; omega)]
    rfl
  have hrow : (List.replicate 5 [CV.i 0]).set b.toNat [.i saw] = sn.map encI := by rw [hsn, List.map_set]; rfl
  obtain ⟨o1, o2, _⟩ := hL.own0 (day := day) sn
  obtain ⟨p1, p2⟩ := own1 sn hofk
  have ok4 := leaseF_ok g1 (by omega) (d := bOwn a day S) (seen := sn) hS8
  have ok5 := leaseF_ok hg (by omega) (d := bOwn a day S) (seen := sn) hS8
  have hlen4 := (good_lease g1 (bOwn a day S) sn hS8).2.2.2.1
  have hlen5 := (good_lease hg (bOwn a day S) sn hS8).2.2.2.1
  repeat refine At.seq ?_
  refine At.region tab_ok ?_
  conv => whnf
  refine ⟨⟨rfl, by decide, by decide⟩, ?_⟩
  conv => whnf
  intro vq
  conv => whnf
  repeat refine At.seq ?_
  refine At.join (fun q : Unit => { N := Try.f15.ntmps, sl := [(4, some (.i til)), (5, some (.i day)), (6, some (.i saw)), (15, some (.b true)), (16, some (.i a)), (17, some (.i b)), (18, some (.s (.c (.o 0 vl)))), (22, some (.s (.c (.o 2 vs)))), (25, some (.s (.c (.o 5 vl1)))), (34, some (.s (.c (.o 6 vq))))], gl := [], hp := [(6, .row vq 3 1 (sn.map encI)), (5, .row vl1 58 7 (L1.map encL)), (2, .row vs 56 3 (S.map encS)), (0, .row vl 58 7 (L.map encL))], S := [], ws := w }) (fun q : Unit => True) ?_ ?_
  · repeat refine At.seq ?_
    refine At.region tab_ok ?_
    conv => whnf
    refine ⟨rfl, ?_⟩
    conv => whnf
    refine ⟨by omega, ?_⟩
    conv => whnf
    refine ⟨by simp; omega, ?_⟩
    conv => whnf
    refine ⟨[.i 0], ⟨rfl, rfl, by omega, by rw [show (Int.toNat 5) = 5 from rfl, List.getElem?_replicate, if_pos (by omega)]⟩, ?_⟩
    conv => whnf
    refine At.meet fun w' hw => ⟨(), trivial, Le.of rfl rfl ⟨rfl, rfl, rfl, rfl, rfl, rfl, rfl, rfl, rfl, rfl, trivial⟩, hw.keep [6, 5, 2, 0] (by rw [← hrow]; rfl) rfl rfl, ⟨⟨_, _, _, rfl⟩, ⟨_, _, _, rfl⟩, ⟨_, _, _, rfl⟩, ⟨_, _, _, rfl⟩, trivial⟩, ⟨(nopI _).okH, (nopL _).okH, (nopS _).okH, (nopL _).okH, trivial⟩⟩
  intro _ _
  repeat refine At.seq ?_
  refine At.region tab_ok ?_
  conv => whnf
  intro b35
  conv => whnf
  repeat refine At.seq ?_
  refine At.region tab_ok ?_
  conv => whnf
  refine ansR_call b48 (rdP (nopL _)) (fun w' hw => leaseDo_c L1 (bOwn a day S) sn vl1 vs vq w' (slL L1 (hw.row (id := 5) rfl) (by omega)) (slS S (hw.row (id := 2) rfl) (by omega)) (slI sn (hw.row (id := 6) rfl) (by omega)) (by omega) hS8 ok4.1 ok4.2) ?_
  intro vx
  conv => whnf
  repeat refine At.seq ?_
  refine At.region tab_ok ?_
  conv => whnf
  refine ansR_call b48 (rdP (nopL _)) (fun w' hw => leaseDo_c L (bOwn a day S) sn vl vs vq w' (slL L (hw.row (id := 0) rfl) (by omega)) (slS S (hw.row (id := 2) rfl) (by omega)) (slI sn (hw.row (id := 6) rfl) (by omega)) (by omega) hS8 ok5.1 ok5.2) ?_
  rw [o1]
  intro vy
  conv => whnf
  repeat refine At.seq ?_
  refine At.region tab_ok ?_
  conv => whnf
  repeat refine At.seq ?_
  refine At.cond rfl (fun hq => ?_) (fun hq => ?_)
  · have hd := of_decide_eq_true hq
    obtain ⟨p3, p4⟩ := p1 hd
    rw [p3, p4]
    generalize (leaseDo (bOwn a day S) sn L).1 = Y at *
    repeat refine At.seq ?_
    refine At.regionG tab_ok ?_
    conv => whnf
    refine ans_call b31 (r := .b true) rfl (fun w' hw => by
      have := sameLots_c Y Y [] [] vx vy w' (slL Y (hw.row (id := 8) rfl) (by omega)) (slL Y (hw.row (id := 9) rfl) (by omega))
      rw [decide_eq_true (rfl : Y = Y)] at this
      exact this) ?_
    conv => whnf
    repeat refine At.seq ?_
    refine At.ret (At.doneB tab_ok hB _ rfl fun w' hw => ⟨rfl, hw.fr⟩)
  · have hd := of_decide_eq_false hq
    have p3 := p2 hd
    rw [p3]
    refine At.skip ?_
    repeat refine At.seq ?_
    refine At.regionG tab_ok ?_
    conv => whnf
    refine ans_call b31 (r := .b true) rfl (fun w' hw => by
      have := sameLots_c L1 L1 [] [] vx vl1 w' (slL L1 (hw.row (id := 8) rfl) (by omega)) (slL L1 (hw.row (id := 5) rfl) (by omega))
      rw [decide_eq_true (rfl : L1 = L1)] at this
      exact this) ?_
    conv => whnf
    repeat refine At.seq ?_
    refine At.ret (At.doneB tab_ok hB _ rfl fun w' hw => ⟨rfl, hw.fr⟩)
end Go.Proofs.Ytjilbkioieicbaa

/- Bytes that come in. -/
namespace Go.Proofs.Ytjilbkioieicbaa
open Go.Vc Rt
set_option linter.unusedVariables false
set_option linter.unusedSimpArgs false
theorem u5 : Try.prog.underlying 5 = some (.int .u8) := by kernel_rfl
theorem byte_of_wf {n : Int} (h : (Lit.int .u8 n).wf = true) : 0 ≤ n ∧ n ≤ 255 := by
  simp only [Lit.wf, Bool.and_eq_true, decide_eq_true_eq] at h
  exact ⟨h.1, h.2⟩
end Go.Proofs.Ytjilbkioieicbaa


namespace Go.Proofs.Ytjilbkioieicbaa.leaseBack
open Go.ChangeShapes Go.WideShapes Go.ChangeAt Go.RowKit
set_option linter.unusedVariables false
theorem own : ownKnob Try.prog.godebug = none := by kernel_rfl
set_option maxRecDepth 100000 in
theorem lifted (os : Os) (started : os.Started) (H : Type) (enc : TypeId × Value → H) :
    ReturnsInHanded {} Try.checked os 15 .any (Rows.leaseBackSpec.pre6 enc Try.prog Try.f15 Rows.leaseBackRow.domain false) (Rows.leaseBackSpec.post enc Try.prog Try.f15 false true false false) := by
  refine returnsInHanded_of_change (C := Try.checked) own started (by kernel_rfl) Try.func15
    (ChangeSpec.witness6 (enc := enc) (C := Try.checked) false ⟨#[], #[.slice none 0 0, .int .u8 0, .int .u8 0, .int .u8 0, .int .i64 0, .int .i64 0, .int .i64 0], []⟩ 8 (by kernel_rfl) (by kernel_rfl) (by kernel_rfl) (by kernel_rfl)) ?_
  intro W base args ds gs before hval0 hW hcnd _
  have hval : ∀ (j : Nat) t v, Try.f15.params[j]? = some t → args[j]? = some v → Value.okWide Try.prog W .any base t v := hval0
  have hW' := hW
  obtain ⟨p, q, hA0, hV, rfl, hfz, hnd⟩ := hW
  have hA : DataW.TrodAll enc Try.prog W 0 (fun _ => true) true Try.f15.params.toList args.toList ds p := hA0
  rw [Try.params15] at hA hval
  obtain ⟨v0, vs0, d0, ds0, p0, q0, hargs, rfl, rfl, h0, r0⟩ := trodAll_cons hA
  obtain ⟨v1, vs1, d1, ds1, p1, q1, rfl, rfl, rfl, h1, r1⟩ := trodAll_cons r0
  obtain ⟨v2, vs2, d2, ds2, p2, q2, rfl, rfl, rfl, h2, r2⟩ := trodAll_cons r1
  obtain ⟨v3, vs3, d3, ds3, p3, q3, rfl, rfl, rfl, h3, r3⟩ := trodAll_cons r2
  obtain ⟨v4, vs4, d4, ds4, p4, q4, rfl, rfl, rfl, h4, r4⟩ := trodAll_cons r3
  obtain ⟨v5, vs5, d5, ds5, p5, q5, rfl, rfl, rfl, h5, r5⟩ := trodAll_cons r4
  obtain ⟨v6, vs6, d6, ds6, p6, q6, rfl, rfl, rfl, h6, r6⟩ := trodAll_cons r5
  obtain ⟨rfl, rfl, rfl⟩ := trodAll_nil r6
  obtain rfl : args = #[v0, v1, v2, v3, v4, v5, v6] := by cases args; simp_all
  obtain ⟨rfl, rfl⟩ := trodVars_none hV
  have k0 := h0
  have lt0 : ∀ x ∈ p0, x.block < W.heap.size := fun x hx => hW'.lt x (by simp [hx])
  obtain ⟨l0, s0⟩ := deeds_open (okWide_slice u45 (hval 0 45 v0 rfl rfl)) h0
  obtain ⟨a1, rfl, rfl, rfl, w1⟩ := open_int u5 (hval 1 5 v1 rfl rfl) h1
  obtain ⟨a2, rfl, rfl, rfl, w2⟩ := open_int u5 (hval 2 5 v2 rfl rfl) h2
  obtain ⟨a3, rfl, rfl, rfl, w3⟩ := open_int u5 (hval 3 5 v3 rfl rfl) h3
  obtain ⟨a4, rfl, rfl, rfl, w4⟩ := open_int u3 (hval 4 3 v4 rfl rfl) h4
  obtain ⟨a5, rfl, rfl, rfl, w5⟩ := open_int u3 (hval 5 3 v5 rfl rfl) h5
  obtain ⟨a6, rfl, rfl, rfl, w6⟩ := open_int u3 (hval 6 3 v6 rfl rfl) h6
  clear hA0 hval0
  simp only [List.append_nil] at hW'
  refine (leaseBack_c l0 a1 a2 a3 a4 a5 a6 v0 W s0 (byte_of_wf w1) (byte_of_wf w2) (byte_of_wf w3) (inR_of_wf w6)).mono fun e W' ⟨he, hx⟩ => ?_
  subst he
  exact ⟨_, rfl, _, _, _, [], _, [], hW', trodAll_cons_mk (shut_bool u4 _) trodAll_mk0, (trodAll_cons_mk (Below.trod laid (by kernel_rfl) (of_decide_eq_true (by kernel_rfl)) k0 hx.below lt0) (trodAll_cons_mk (shut_int u5 w1) (trodAll_cons_mk (shut_int u5 w2) (trodAll_cons_mk (shut_int u5 w3) (trodAll_cons_mk (shut_int u3 w4) (trodAll_cons_mk (shut_int u3 w5) (trodAll_cons_mk (shut_int u3 w6) trodAll_mk0))))))), rfl, hx.below.frame _, fun h => by cases h⟩

theorem over : Rows.leaseBackRow.holds Try.pinned (OpenSpec.ofChange Rows.leaseBackSpec) :=
  OpenClaim.holds_of_wide 15 Try.f15 rfl rfl rfl rfl rfl rfl rfl ⟨rfl, rfl, rfl, rfl, rfl⟩ rfl rfl rfl rfl rfl (by kernel_rfl) Try.func15 (by kernel_rfl)
    (of_decide_eq_true (by kernel_rfl)) (by unfold Func.isWrapper; first | (rw [if_pos (by decide +kernel)]; kernel_rfl) | (rw [if_neg (by decide +kernel)]; exact ⟨rfl, rfl⟩))
    (fun os started H enc _ => lifted os started H enc)

/-- The statement. -/
theorem proved : Rows.LeaseBackSaid :=
  over
#print axioms proved
end Go.Proofs.Ytjilbkioieicbaa.leaseBack

