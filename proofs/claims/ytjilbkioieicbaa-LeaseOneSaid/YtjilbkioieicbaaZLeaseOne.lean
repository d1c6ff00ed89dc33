/- The law LeaseOne: for every input the call returns true and the arguments read as before; no condition. -/
import Derived.Test.YtjilbkioieicbaaMF
import Derived.Test.YtjilbkioieicbaaRows
import Derived.WalkKit
import Derived.ProofKit
import Derived.OpenShut
import Derived.Carry
/- The law RightsParts, in plain terms. -/
namespace Go.Proofs.Ytjilbkioieicbaa
open Go.Vc Rt
set_option linter.unusedVariables false
set_option linter.unusedSimpArgs false
def withS (d : Deed) (S : List Span) : Deed := { d with spans := S }
theorem nf_normal {l : List Span} (h : NF l) (hv : ∀ s ∈ l, valid s = true) : normal l = true := by
  unfold normal
  rw [List.all_eq_true]
  intro i hi
  have hi := List.mem_range.1 hi
  have e : l[i]? = some l[i] := List.getElem?_eq_getElem hi
  unfold okAt
  rw [e]
  simp only
  rw [hv l[i] (List.getElem_mem hi)]
  simp only [Bool.true_and, Bool.or_eq_true, beq_iff_eq]
  by_cases h0 : i = 0
  · exact .inl h0
  · refine .inr ?_
    have e1 : l[i - 1]? = some (l[i - 1]'(by omega)) := List.getElem?_eq_getElem (by omega)
    rw [e1]
    have hg := List.pairwise_iff_getElem.1 h.ord (i - 1) i (by omega) hi (by omega)
    have h1 := h.ne _ (List.getElem_mem hi)
    unfold gap at hg
    simp
    omega
theorem normal_one {s : Span} (h : valid s = true) : normal [s] = true := nf_normal ⟨fun x hx => by rw [List.mem_singleton.1 hx]; exact valid_lt h, by simp⟩ fun x hx => by rw [List.mem_singleton.1 hx]; exact h
theorem right_with {d : Deed} {S : List Span} (hr : right d = true) (hk : d.kind ≠ 0) (h1 : 0 < S.length) (h2 : normal S = true) : right (withS d S) = true := by
  obtain ⟨a1, a2, a3, _, _⟩ := right_parts hr
  have hb : ¬ ((withS d S).mark < 0 ∨ 1073741824 < (withS d S).mark ∨ isKey (withS d S).author = false ∨ (withS d S).spans.length = 0 ∨ normal (withS d S).spans = false) := right_base ⟨a1, a2⟩ a3 h1 h2
  unfold right at hr ⊢
  split at hr
  · cases hr
  · rw [if_neg hb]
    rw [if_neg (show ¬ (withS d S).kind = 0 from hk)]
    exact hr
theorem parts_run {d : Deed} (hr : right d = true) (hk : d.kind ≠ 0) {F : Int → Int → Option Sta} (he : errF F d = 0) : ∀ (P : List (List Span)) (l0 : List Deed) (D : Int → Int → Prop),
    (∀ S ∈ P, 0 < S.length ∧ S.length ≤ 8 ∧ normal S = true ∧ ∀ m n, Has S m n → Has d.spans m n ∧ ¬ D m n) → P.Pairwise (fun S T => ∀ m n, Has S m n → ¬ Has T m n) → (∀ x ∈ l0, x.spans.length ≤ 8) →
    (∀ m n, (D m n → sta (lotsK l0).1 m n = (F m n).map (movedS d)) ∧ (¬ D m n → sta (lotsK l0).1 m n = F m n)) →
    (∀ m n, ((D m n ∨ ∃ S ∈ P, Has S m n) → sta (lotsK (l0 ++ P.map (withS d))).1 m n = (F m n).map (movedS d)) ∧ (¬ (D m n ∨ ∃ S ∈ P, Has S m n) → sta (lotsK (l0 ++ P.map (withS d))).1 m n = F m n)) ∧ (lotsK (l0 ++ P.map (withS d))).2 = (lotsK l0).2 ++ P.map (fun _ => (0 : Int))
  | [], l0, D, _, _, _, hs => by
    simp only [List.map_nil, List.append_nil]
    refine ⟨fun m n => ⟨fun h => (hs m n).1 (h.elim id fun ⟨S, hS, _⟩ => by cases hS), fun h => (hs m n).2 fun hD => h (.inl hD)⟩, trivial⟩
  | S :: P, l0, D, hP, hp, h8, hs => by
    obtain ⟨p1, p2⟩ := List.pairwise_cons.1 hp
    obtain ⟨s1, s2, s3, s4⟩ := hP S (List.mem_cons_self ..)
    have hg := good_lots _ l0 rfl h8
    have hrS : right (withS d S) = true := right_with hr hk s1 s3
    have hcoin : ∀ m n, Has S m n → ∃ x, F m n = some x ∧ mayS x d = 0 ∧ sta (lotsK l0).1 m n = some x := fun m n hh => by
      obtain ⟨h1, h2⟩ := s4 m n hh
      obtain ⟨x, hx, hm⟩ := errF_move he hk m n h1
      exact ⟨x, hx, hm, by rw [(hs m n).2 h2]; exact hx⟩
    have e0 : errF (sta (lotsK l0).1) (withS d S) = 0 := err_0 hrS hk fun m n hh => by
      obtain ⟨x, _, h2, h3⟩ := hcoin m n hh
      exact ⟨x, h3, h2⟩
    obtain ⟨_, g2, g3⟩ := good_do (d := withS d S) hg s2
    rw [e0] at g2
    have hsn := lotsK_snoc l0 (withS d S)
    rw [g2] at hsn
    have hst : ∀ m n, (D m n ∨ Has S m n → sta (lotsK (l0 ++ [withS d S])).1 m n = (F m n).map (movedS d)) ∧ (¬ (D m n ∨ Has S m n) → sta (lotsK (l0 ++ [withS d S])).1 m n = F m n) := by
      intro m n
      rw [hsn]
      simp only
      rw [g3]
      by_cases hh : Has S m n
      · obtain ⟨x, h1, h2, h3⟩ := hcoin m n hh
        refine ⟨fun _ => ?_, fun h => (h (.inr hh)).elim⟩
        unfold stepF
        rw [if_pos e0, if_pos (show Has (withS d S).spans m n from hh), if_neg (show ¬ (withS d S).kind = 0 from hk), h3, h1]
        rfl
      · rw [coin_not (show ¬ Has (withS d S).spans m n from hh)]
        exact ⟨fun h => (hs m n).1 (h.elim id fun h => (hh h).elim), fun h => (hs m n).2 fun hD => h (.inl hD)⟩
    obtain ⟨r1, r2⟩ := parts_run hr hk he P (l0 ++ [withS d S]) (fun m n => D m n ∨ Has S m n) (fun T hT => by
      obtain ⟨t1, t2, t3, t4⟩ := hP T (List.mem_cons_of_mem _ hT)
      exact ⟨t1, t2, t3, fun m n hh => ⟨(t4 m n hh).1, fun h => h.elim (t4 m n hh).2 fun h' => p1 T hT m n h' hh⟩⟩) p2 (fun x hx => by
      rcases List.mem_append.1 hx with hx | hx
      · exact h8 x hx
      · rw [List.mem_singleton.1 hx]; exact s2) hst
    have el : l0 ++ List.map (withS d) (S :: P) = (l0 ++ [withS d S]) ++ P.map (withS d) := by simp
    rw [el]
    refine ⟨fun m n => ⟨fun h => (r1 m n).1 ?_, fun h => (r1 m n).2 fun h' => h ?_⟩, by rw [r2, hsn]; simp⟩
    · rcases h with h | ⟨T, hT, hh⟩
      · exact .inl (.inl h)
      · rcases List.mem_cons.1 hT with rfl | hT
        · exact .inl (.inr hh)
        · exact .inr ⟨T, hT, hh⟩
    · rcases h' with (h' | h') | ⟨T, hT, hh⟩
      · exact .inl h'
      · exact .inr ⟨S, List.mem_cons_self .., h'⟩
      · exact .inr ⟨T, List.mem_cons_of_mem _ hT, hh⟩
theorem parts_law {l : List Deed} {d : Deed} (h8 : ∀ x ∈ l, x.spans.length ≤ 8) (hd8 : d.spans.length ≤ 8) (hk : d.kind ≠ 0) (he : errF (sta (lotsK l).1) d = 0) {P : List (List Span)}
    (hP : ∀ S ∈ P, 0 < S.length ∧ S.length ≤ 8 ∧ normal S = true) (hp : P.Pairwise (fun S T => ∀ m n, Has S m n → ¬ Has T m n)) (hU : ∀ m n, Has d.spans m n ↔ ∃ S ∈ P, Has S m n) :
    lotsK (l ++ P.map (withS d)) = ((doB (lotsK l).1 d).1, (lotsK l).2 ++ P.map (fun _ => (0 : Int))) := by
  have hr := err_right he
  have hg := good_lots _ l rfl h8
  obtain ⟨g1, g2, g3⟩ := good_do (d := d) hg hd8
  obtain ⟨r1, r2⟩ := parts_run hr hk he P l (fun _ _ => False) (fun S hS => ⟨(hP S hS).1, (hP S hS).2.1, (hP S hS).2.2, fun m n hh => ⟨(hU m n).2 ⟨S, hS, hh⟩, id⟩⟩) hp h8 (fun m n => ⟨False.elim, fun _ => rfl⟩)
  refine Prod.ext (Good.ext (good_lots _ _ rfl fun x hx => ?_) g1 ?_) r2
  · rcases List.mem_append.1 hx with hx | hx
    · exact h8 x hx
    · obtain ⟨S, hS, rfl⟩ := List.mem_map.1 hx; exact (hP S hS).2.1
  · rw [g3]
    funext m n
    by_cases hh : Has d.spans m n
    · rw [(r1 m n).1 (.inr ((hU m n).1 hh))]
      unfold stepF
      rw [if_pos he, if_pos hh, if_neg hk]
    · rw [coin_not hh]
      exact (r1 m n).2 fun h => h.elim id fun h => hh ((hU m n).2 h)
def partsOne (S : List Span) : List (List Span) := S.map fun s => [s]
theorem one_law {l : List Deed} {d : Deed} (h8 : ∀ x ∈ l, x.spans.length ≤ 8) (hd8 : d.spans.length ≤ 8) (hk : d.kind ≠ 0) (he : errF (sta (lotsK l).1) d = 0) :
    lotsK (l ++ (partsOne d.spans).map (withS d)) = ((doB (lotsK l).1 d).1, (lotsK l).2 ++ (partsOne d.spans).map (fun _ => (0 : Int))) := by
  have hr := err_right he
  have hnf := normal_nf (right_parts hr).2.2.2.2
  have hv := normal_valid (right_parts hr).2.2.2.2
  refine parts_law h8 hd8 hk he (fun S hS => ?_) ?_ fun m n => ?_
  · obtain ⟨s, hs, rfl⟩ := List.mem_map.1 hS
    exact ⟨by simp, by simp, normal_one (hv s hs)⟩
  · refine List.pairwise_map.2 (hnf.ord.imp fun {a b} hg m n h1 h2 => ?_)
    rw [Has.one] at h1 h2
    unfold gap at hg; omega
  · constructor
    · rintro ⟨s, hs, h⟩; exact ⟨[s], List.mem_map.2 ⟨s, hs, rfl⟩, Has.one.2 h⟩
    · rintro ⟨S, hS, h⟩; obtain ⟨s, hs, rfl⟩ := List.mem_map.1 hS; exact ⟨s, hs, Has.one.1 h⟩
def some1 (S : List Span) : List (List Span) := if 0 < S.length then [S] else []
theorem some1_mem {S T : List Span} (h : T ∈ some1 S) : T = S ∧ 0 < S.length := by
  unfold some1 at h; split at h
  · exact ⟨List.mem_singleton.1 h, by assumption⟩
  · cases h
theorem some1_has {S : List Span} {m n : Int} : (∃ T ∈ some1 S, Has T m n) ↔ Has S m n := by
  constructor
  · rintro ⟨T, hT, h⟩; rw [(some1_mem hT).1] at h; exact h
  · intro h
    refine ⟨S, ?_, h⟩
    unfold some1; rw [if_pos]; simp
    obtain ⟨s, hs, _⟩ := h
    exact List.length_pos_of_mem hs
theorem two_law {l : List Deed} {d : Deed} {c : Int} (h8 : ∀ x ∈ l, x.spans.length ≤ 8) (hd8 : d.spans.length ≤ 8) (hk : d.kind ≠ 0) (he : errF (sta (lotsK l).1) d = 0) :
    lotsK (l ++ (some1 (norm (takeF (norm d.spans) c)) ++ some1 (norm (takeR (norm d.spans) c))).map (withS d)) = ((doB (lotsK l).1 d).1, (lotsK l).2 ++ (some1 (norm (takeF (norm d.spans) c)) ++ some1 (norm (takeR (norm d.spans) c))).map (fun _ => (0 : Int))) := by
  have hr := err_right he
  have hns := norm_spans hr
  have hnf := normal_nf (right_parts hr).2.2.2.2
  have hv := normal_valid (right_parts hr).2.2.2.2
  obtain ⟨t1, t2, t3, t4⟩ := take_spec (n := c) hnf hv
  rw [hns]
  have hlF : (norm (takeF d.spans c)).length ≤ 8 := Nat.le_trans (norm_len _) (by rw [takeF_len]; exact hd8)
  have hlR : (norm (takeR d.spans c)).length ≤ 8 := Nat.le_trans (norm_len _) (by rw [takeR_len]; exact hd8)
  refine parts_law h8 hd8 hk he (fun S hS => ?_) ?_ fun m n => ?_
  · rcases List.mem_append.1 hS with hS | hS
    · obtain ⟨rfl, h0⟩ := some1_mem hS; exact ⟨h0, hlF, nf_normal (norm_nf _) norm_valid⟩
    · obtain ⟨rfl, h0⟩ := some1_mem hS; exact ⟨h0, hlR, nf_normal (norm_nf _) norm_valid⟩
  · have one : ∀ S, (some1 S).Pairwise (fun S T => ∀ m n, Has S m n → ¬ Has T m n) := fun S => by unfold some1; split <;> simp
    refine List.pairwise_append.2 ⟨one _, one _, fun S hS T hT m n h1 h2 => ?_⟩
    rw [(some1_mem hS).1] at h1
    rw [(some1_mem hT).1] at h2
    exact t4 m n h1 h2
  · constructor
    · intro h
      rcases t3 m n h with h | h
      · obtain ⟨T, hT, h⟩ := some1_has.2 h; exact ⟨T, List.mem_append_left _ hT, h⟩
      · obtain ⟨T, hT, h⟩ := some1_has.2 h; exact ⟨T, List.mem_append_right _ hT, h⟩
    · rintro ⟨T, hT, h⟩
      rcases List.mem_append.1 hT with hT | hT
      · exact t1 m n (some1_has.1 ⟨T, hT, h⟩)
      · exact t2 m n (some1_has.1 ⟨T, hT, h⟩)
end Go.Proofs.Ytjilbkioieicbaa

/- The law LeaseOne, in plain terms. -/
namespace Go.Proofs.Ytjilbkioieicbaa
open Go.Vc Rt
set_option linter.unusedVariables false
set_option linter.unusedSimpArgs false
/-- Who may use a coin. -/
def usr (days : List Int) (x : Sta) : Int := if x.h = x.o then x.o else if ofK days x.h ≤ x.u then x.h else x.o
theorem mayU_iff (days : List Int) (l : Lot) (k : Int) : mayU l k (ofK days k) (ofK days l.h) = 0 ↔ l.p = -1 ∧ usr days (stL l) = k := by
  unfold mayU usr stL
  simp only
  by_cases h1 : l.p = -1
  · rw [if_neg (by simpa using h1)]
    by_cases h2 : l.h = l.o
    · rw [if_pos h2]
      by_cases h3 : k = l.o
      · subst h3
        rw [if_neg (by omega), if_neg (by omega), if_neg (by omega)]
        simp [h1]
      · rw [if_pos (by omega)]
        constructor
        · intro h; cases h
        · rintro ⟨_, h⟩; exact (h3 h.symm).elim
    · rw [if_neg h2]
      by_cases h4 : ofK days l.h ≤ l.u
      · rw [if_pos h4]
        by_cases h3 : k = l.h
        · subst h3
          rw [if_neg (by omega), if_neg (by omega), if_neg (by omega)]
          simp [h1]
        · constructor
          · intro h
            split at h
            · cases h
            · rw [if_pos ⟨h3, h4⟩] at h; cases h
          · rintro ⟨_, h⟩; exact (h3 h.symm).elim
      · rw [if_neg h4]
        by_cases h3 : k = l.o
        · subst h3
          rw [if_neg (by omega), if_neg (by omega), if_neg (by omega)]
          simp [h1]
        · constructor
          · intro h
            split at h
            · cases h
            · rename_i h5
              have hk : k = l.h := by omega
              subst hk
              rw [if_neg (by omega), if_pos ⟨h3, by omega⟩] at h; cases h
          · rintro ⟨_, h⟩; exact (h3 h.symm).elim
  · rw [if_pos h1]
    constructor
    · intro h; cases h
    · rintro ⟨h, _⟩; exact (h1 h).elim
def useK (days : List Int) (L : List Lot) (k : Int) : List Span := norm (openL (fun l => decide (usr days (stL l) = k)) L)
def useTo (days : List Int) (L : List Lot) (k : Int) : List Span := norm (openL (fun l => decide (0 ≤ usr days (stL l) ∧ usr days (stL l) < k)) L)
theorem usable_eq (days : List Int) (L : List Lot) (k : Int) : usableL L k (ofK days k) days = useK days L k := by
  unfold usableL useK openL
  congr 2
  refine List.filter_congr fun l _ => ?_
  rw [Bool.eq_iff_iff]
  simp only [decide_eq_true_eq, Bool.and_eq_true]
  exact mayU_iff days l k
theorem has_useK {L : List Lot} (h : Ord L) {days : List Int} {k m n : Int} : Has (useK days L k) m n ↔ ∃ x, sta L m n = some x ∧ x.p = -1 ∧ usr days x = k := by
  refine (has_open (p := fun l => decide (usr days (stL l) = k)) (q := fun x => decide (usr days x = k)) (fun l => rfl) h).trans ?_
  simp
theorem has_useTo {L : List Lot} (h : Ord L) {days : List Int} {k m n : Int} : Has (useTo days L k) m n ↔ ∃ x, sta L m n = some x ∧ x.p = -1 ∧ 0 ≤ usr days x ∧ usr days x < k := by
  refine (has_open (p := fun l => decide (0 ≤ usr days (stL l) ∧ usr days (stL l) < k)) (q := fun x => decide (0 ≤ usr days x ∧ usr days x < k)) (fun l => rfl) h).trans ?_
  simp
theorem use_apart {L : List Lot} (h : Ord L) (days : List Int) (k : Int) : (common (useTo days L k) (useK days L k)).length = 0 := by
  rw [common_empty]
  unfold useTo useK
  rw [norm_norm, norm_norm]
  intro m n h1 h2
  obtain ⟨x, x1, _, _, x4⟩ := (has_useTo h).1 h1
  obtain ⟨y, y1, _, y3⟩ := (has_useK h).1 h2
  rw [x1] at y1; cases y1; omega
theorem use_step {L : List Lot} (h : Ord L) (days : List Int) (k : Int) (hk : 0 ≤ k) : unionS (useTo days L k) (useK days L k) = useTo days L (k + 1) := by
  unfold unionS
  refine NF.ext (norm_nf _) (norm_nf _) fun m n => ?_
  have e : Has (norm (useTo days L k ++ useK days L k)) m n ↔ Has (useTo days L k) m n ∨ Has (useK days L k) m n := by
    rw [has_norm]
    constructor
    · rintro ⟨s, hs, _, hh⟩
      rcases List.mem_append.1 hs with hs | hs
      · exact .inl ⟨s, hs, hh⟩
      · exact .inr ⟨s, hs, hh⟩
    · rintro (⟨s, hs, hh⟩ | ⟨s, hs, hh⟩)
      · exact ⟨s, List.mem_append_left _ hs, norm_valid s hs, hh⟩
      · exact ⟨s, List.mem_append_right _ hs, norm_valid s hs, hh⟩
  rw [e, has_useTo h, has_useK h]
  show _ ↔ Has (useTo days L (k + 1)) m n
  rw [has_useTo h]
  constructor
  · rintro (⟨x, a, b, c, d⟩ | ⟨x, a, b, c⟩)
    · exact ⟨x, a, b, c, by omega⟩
    · exact ⟨x, a, b, by omega, by omega⟩
  · rintro ⟨x, a, b, c, d⟩
    by_cases e : usr days x = k
    · exact .inr ⟨x, a, b, e⟩
    · exact .inl ⟨x, a, b, c, by omega⟩
theorem usr_key {days : List Int} {x : Sta} (h1 : isKey x.o = true) (h2 : isKey x.h = true) : 0 ≤ usr days x ∧ usr days x < 200 := by
  unfold isKey at h1 h2
  simp at h1 h2
  unfold usr
  split
  · exact h1
  · split
    · exact h2
    · exact h1
theorem use_len (days : List Int) (L : List Lot) (k : Int) : (useK days L k).length ≤ L.length ∧ (useTo days L k).length ≤ L.length :=
  ⟨Nat.le_trans (norm_len _) (openL_len _ _), Nat.le_trans (norm_len _) (openL_len _ _)⟩
theorem useK_normal (days : List Int) (L : List Lot) (k : Int) : normal (useK days L k) = true := nf_normal (norm_nf _) norm_valid
theorem used_law {L : List Lot} (hg : Good L) (days : List Int) {x : Lot} (hx : x ∈ L) : count (common [x.s] (useTo days L 200)) = if x.p = -1 then x.s.t - x.s.f else 0 := by
  have hok := hg.ord.ok x hx
  have hv := lotOk_valid hok
  have hcn : norm (useTo days L 200) = useTo days L 200 := norm_norm _
  split
  · rename_i hp
    have e : common [x.s] (useTo days L 200) = [x.s] := by
      refine NF.ext (norm_nf _) ⟨fun s hs => by rw [List.mem_singleton.1 hs]; exact valid_lt hv, by simp⟩ fun m n => ?_
      show Has (common [x.s] (useTo days L 200)) m n ↔ _
      rw [has_common, hcn, Has.one]
      constructor
      · rintro ⟨h, _⟩
        obtain ⟨s, hs, _, hh⟩ := has_norm.1 h
        rw [List.mem_singleton.1 hs] at hh; exact hh
      · intro hh
        refine ⟨has_norm.2 ⟨x.s, by simp, hv, hh⟩, (has_useTo hg.ord).2 ⟨stL x, sta_some hg.ord hx (inLot_iff.2 hh), hp, ?_⟩⟩
        have hk := hg.key _ _ _ (sta_some hg.ord hx (inLot_iff.2 hh))
        exact usr_key hk.1 hk.2
    rw [e]
    unfold count
    rw [norm_id ⟨fun s hs => by rw [List.mem_singleton.1 hs]; exact valid_lt hv, by simp⟩ fun s hs => by rw [List.mem_singleton.1 hs]; exact hv]
    simp [total]
  · rename_i hp
    have e : (common [x.s] (useTo days L 200)).length = 0 := by
      rw [common_empty, hcn]
      intro m n h1 h2
      obtain ⟨s, hs, _, hh⟩ := has_norm.1 h1
      rw [List.mem_singleton.1 hs] at hh
      obtain ⟨y, y1, y2, _⟩ := (has_useTo hg.ord).1 h2
      rw [sta_some hg.ord hx (inLot_iff.2 hh)] at y1
      cases y1
      exact hp y2
    rw [List.eq_nil_of_length_eq_zero e]
    rfl
theorem useTo_zero (days : List Int) (L : List Lot) : useTo days L 0 = [] := by
  unfold useTo openL
  have : L.filter (fun l => decide (l.p = -1) && decide (0 ≤ usr days (stL l) ∧ usr days (stL l) < 0)) = [] := by
    rw [List.filter_eq_nil_iff]
    intro l _ h
    simp only [Bool.and_eq_true, decide_eq_true_eq] at h
    omega
  rw [this]; rfl
end Go.Proofs.Ytjilbkioieicbaa

/- The law LeaseOne (stokvellaw28): what the call computes. -/
namespace Go.Proofs.Ytjilbkioieicbaa
open Go.Vc Rt
set_option linter.unusedVariables false
set_option linter.unusedSimpArgs false
theorem leaseOne_c (l : List Deed) (seen : List (List Int)) (days : List Int) (v z y : Value) (w : World) (h : SlOf deT [] w v l) (hz : SlOf seT [] w z seen) (hy : SlOf intT [] w y days) : Ans Try.prog 12 [v, z, y] (.b true) w := by
  have hl := h.len
  have hsm := h.small
  have hyl := hy.len
  refine calls_plainB [.x v, .x z, .x y] Try.func12 rfl rfl (Nat.le_of_ble_eq_true rfl) rfl fun B hB => ?_
  repeat refine At.seq ?_
  refine At.region tab_ok ?_
  conv => whnf
  repeat refine At.seq ?_
  refine At.region tab_ok ?_
  conv => whnf
  refine ans_call b42 rfl (fun w' hw => small28_c w') ?_
  conv => whnf
  repeat refine At.seq ?_
  refine At.region tab_ok ?_
  conv => whnf
  refine ans_call b25 rfl (fun w' hw => few_c l 20 [] v w' (h.fr hw.fr)) ?_
  conv => whnf
  refine ⟨.b (few28 seen), by simp only [gimp]; intro _; exact ans_quiet b43 (fun w' hw => few28_c seen z w' (hz.fr hw.fr)), ?_⟩
  conv => whnf
  refine ⟨by simp only [gimp]; intros; exact hy.sl, ?_⟩
  conv => whnf
  repeat refine At.seq ?_
  refine At.cond rfl (fun hq => ?_) (fun hq => ?_)
  · repeat refine At.seq ?_
    refine At.region tab_ok ?_
    conv => whnf
    repeat refine At.seq ?_
    refine At.ret (At.doneB tab_ok hB _ rfl fun w' hw => ⟨rfl, hw.fr⟩)
  have hq' : few l 20 = true ∧ days.length ≤ 12 := by
    simp only [bor, Bool.or_eq_false_iff, Bool.not_eq_false', decide_eq_false_iff_not] at hq; exact ⟨hq.1.1, by omega⟩
  obtain ⟨hn, hsp⟩ := few_spec hq'.1
  have hn : l.length ≤ 20 := by omega
  have hd12 := hq'.2
  refine At.skip ?_
  obtain ⟨hg, hlen, hel⟩ := leaseF_good _ (pairUp l seen) rfl fun x hx => hsp x.1 (pairUp_mem hx)
  rw [pairUp_len] at hlen hel
  repeat refine At.seq ?_
  refine At.region tab_ok ?_
  conv => whnf
  refine ansR_call b44 (rd2 (nopL _) (nopI _)) (fun w' hw => leaseLots_c l seen v z w' (h.fr hw.fr) (hz.fr hw.fr) (by omega) hsp) ?_
  unfold leaseK
  intro vl
  conv => whnf
  intro ve
  conv => whnf
  generalize leaseF (pairUp l seen) = P at *
  obtain ⟨L, es⟩ := P
  simp only at hg hlen hel ⊢
  repeat refine At.seq ?_
  refine At.region tab_ok ?_
  conv => whnf
  refine ⟨rfl, ?_⟩
  conv => whnf
  refine ⟨h.sl, ?_⟩
  conv => whnf
  repeat refine At.seq ?_
  refine At.cond rfl (fun hq => ?_) (fun hq => At.skip ?_)
  · simp [hel, hl] at hq
  have hub := fun k => use_len days L k
  repeat refine At.seq ?_
  refine At.region tab_ok ?_
  conv => whnf
  repeat refine At.seq ?_
  refine At.region tab_ok ?_
  conv => whnf
  repeat refine At.seq ?_
  refine At.block ?_
  refine At.loopH (fun p : Nat × Value => { N := Try.f12.ntmps, sl := [(2, some (.x y)), (7, some (.b true)), (8, some (.s (.c (.o 0 vl)))), (10, some (.s (.c (.o 1 p.2)))), (11, some (.i p.1))], gl := [], hp := [(1, .row p.2 56 3 ((useTo days L p.1).map encS)), (0, .row vl 58 7 (L.map encL))], S := [], ws := w }) (fun p : Nat × Value => p.1 ≤ 200) (fun p : Nat × Value => 200 - p.1)
    (fun w' hw => ⟨(0, .slice none 0 0), Nat.zero_le _, Le.of rfl rfl ⟨rfl, rfl, rfl, rfl, rfl, trivial⟩, (hw.keep (st' := { N := 0, sl := [], gl := [], hp := [(0, .row vl 58 7 (L.map encL))], S := [], ws := w }) [0] rfl rfl rfl).nil (by rw [show ((0 : Nat) : Int) = 0 from rfl, useTo_zero]; rfl) rfl rfl, ⟨⟨_, _, _, rfl⟩, ⟨_, _, _, rfl⟩, trivial⟩, ⟨(nopS _).okH, (nopL _).okH, trivial⟩⟩) ?_
  rintro ⟨k, va⟩ hk
  simp only at hk ⊢
  repeat refine At.seq ?_
  refine At.region tab_ok ?_
  conv => whnf
  repeat refine At.seq ?_
  refine At.cond rfl (fun hc => At.skip ?_) (fun hc => At.exit ?_)
  · have hlt : k < 200 := by have := of_decide_eq_true hc; omega
    have hu1 := (hub k).1
    have hu2 := (hub k).2
    have hap := use_apart hg.ord days k
    have hno := useK_normal days L k
    have hst := use_step hg.ord days k (by omega)
    have hke : ((k + 1 : Nat) : Int) = (k : Int) + 1 := by omega
    repeat refine At.seq ?_
    refine At.block ?_
    repeat refine At.seq ?_
    refine At.region tab_ok ?_
    conv => whnf
    repeat refine At.seq ?_
    refine At.region tab_ok ?_
    conv => whnf
    refine ⟨hy.sl, ?_⟩
    conv => whnf
    repeat refine At.seq ?_
    refine At.join (fun q : Unit => { N := Try.f12.ntmps, sl := [(2, some (.x y)), (7, some (.b true)), (8, some (.s (.c (.o 0 vl)))), (10, some (.s (.c (.o 1 va)))), (11, some (.i k)), (12, some (.i (ofK days k)))], gl := [], hp := [(1, .row va 56 3 ((useTo days L k).map encS)), (0, .row vl 58 7 (L.map encL))], S := [], ws := w }) (fun q : Unit => True) ?_ ?_
    · repeat refine At.seq ?_
      refine At.cond rfl (fun hq => ?_) (fun hq => ?_)
      · have hk2 : k < days.length := by have := of_decide_eq_true hq; omega
        obtain ⟨x, hx⟩ : ∃ x, days[k]? = some x := ⟨_, List.getElem?_eq_getElem hk2⟩
        have e : ofK days k = x := by unfold ofK; rw [if_neg (by omega), Int.toNat_natCast, List.getD_eq_getElem?_getD, hx]; rfl
        repeat refine At.seq ?_
        refine At.region tab_ok ?_
        conv => whnf
        refine ⟨by omega, ?_⟩
        conv => whnf
        refine ⟨by omega, ?_⟩
        conv => whnf
        refine ⟨[.i x], fun w' hw => hy.load (n := 1) hw.fr hx rfl, ?_⟩
        conv => whnf
        refine At.meet fun w' hw => ⟨(), trivial, Le.of rfl rfl ⟨rfl, rfl, rfl, rfl, rfl, congrArg (Value.int .i64) (by rw [e]), trivial⟩, hw.keep [1, 0] rfl rfl rfl, ⟨⟨_, _, _, rfl⟩, ⟨_, _, _, rfl⟩, trivial⟩, ⟨(nopS _).okH, (nopL _).okH, trivial⟩⟩
      · have hk2 : days.length ≤ k := by have := of_decide_eq_false hq; omega
        have e : ofK days k = -1 := by unfold ofK; rw [if_neg (by omega), Int.toNat_natCast, List.getD_eq_getElem?_getD, List.getElem?_eq_none hk2]; rfl
        refine At.skip ?_
        refine At.meet fun w' hw => ⟨(), trivial, Le.of rfl rfl ⟨rfl, rfl, rfl, rfl, rfl, congrArg (Value.int .i64) (by rw [e]), trivial⟩, hw.keep [1, 0] rfl rfl rfl, ⟨⟨_, _, _, rfl⟩, ⟨_, _, _, rfl⟩, trivial⟩, ⟨(nopS _).okH, (nopL _).okH, trivial⟩⟩
    intro _ _
    repeat refine At.seq ?_
    refine At.region tab_ok ?_
    conv => whnf
    refine ansR_call b45 (rd1 (nopS _)) (fun w' hw => usable_c L k (ofK days k) days vl y w' (slL L (hw.row (id := 0) rfl) (by omega)) (hy.fr hw.fr) (by omega)) ?_
    rw [usable_eq]
    intro vu
    conv => whnf
    repeat refine At.seq ?_
    refine At.join (fun q : Unit => { N := Try.f12.ntmps, sl := [(2, some (.x y)), (7, some (.b true)), (8, some (.s (.c (.o 0 vl)))), (10, some (.s (.c (.o 1 va)))), (11, some (.i k)), (13, some (.s (.c (.o 2 vu)))), (69, some (.b false))], gl := [], hp := [(2, .row vu 56 3 ((useK days L k).map encS)), (1, .row va 56 3 ((useTo days L k).map encS)), (0, .row vl 58 7 (L.map encL))], S := [], ws := w }) (fun q : Unit => True) ?_ ?_
    · repeat refine At.seq ?_
      refine At.regionG tab_ok ?_
      conv => whnf
      refine ansR_call b41 (rd1 (nopS _)) (fun w' hw => common_c (useTo days L k) (useK days L k) [] [] va vu w' (slS _ (hw.row (id := 1) rfl) (by omega)) (slS _ (hw.row (id := 2) rfl) (by omega)) (by omega) (by omega)) ?_
      rw [List.eq_nil_of_length_eq_zero hap]
      intro vc
      conv => whnf
      refine ⟨rfl, ?_⟩
      conv => whnf
      refine ans_call b46 (r := .b true) rfl (fun w' hw => by
        have := normal_c (useK days L k) [] vu w' (slS _ (hw.row (id := 2) rfl) (by omega))
        rw [hno] at this
        exact this) ?_
      conv => whnf
      refine At.meet fun w' hw => ⟨(), trivial, Le.of rfl rfl ⟨rfl, rfl, rfl, rfl, rfl, rfl, rfl, trivial⟩, hw.keep [2, 1, 0] rfl rfl rfl, ⟨⟨_, _, _, rfl⟩, ⟨_, _, _, rfl⟩, ⟨_, _, _, rfl⟩, trivial⟩, ⟨(nopS _).okH, (nopS _).okH, (nopL _).okH, trivial⟩⟩
    intro _ _
    repeat refine At.seq ?_
    refine At.cond (t := false) rfl (fun hq => by cases hq) (fun hq => At.skip ?_)
    repeat refine At.seq ?_
    refine At.region tab_ok ?_
    conv => whnf
    refine ansR_call b47 (rd1 (nopS _)) (fun w' hw => union_c (useTo days L k) (useK days L k) [] [] va vu w' (slS _ (hw.row (id := 1) rfl) (by omega)) (slS _ (hw.row (id := 2) rfl) (by omega)) (by omega) (by omega)) ?_
    rw [hst]
    intro vn
    conv => whnf
    repeat refine At.seq ?_
    refine At.region tab_ok ?_
    conv => whnf
    refine ⟨⟨by omega, by omega⟩, ?_⟩
    conv => whnf
    refine At.nextH fun w' hw => ⟨(k + 1, vn), by simp only; omega, by simp only; omega, Le.of rfl rfl ⟨rfl, rfl, rfl, rfl, rfl, trivial⟩, hw.ren [3,0] ((by simp only; rw [hke]; rfl)) rfl rfl, ⟨⟨_, _, _, rfl⟩, ⟨_, _, _, rfl⟩, trivial⟩, ⟨(nopS _).okH, (nopL _).okH, trivial⟩⟩
  have hge : k = 200 := by have := of_decide_eq_false hc; omega
  subst hge
  have hu2 := (hub 200).2
  rw [show ((200 : Nat) : Int) = 200 from rfl]
  have hused := fun x (hx : x ∈ L) => used_law hg days hx
  generalize useTo days L 200 = all at *
  repeat refine At.seq ?_
  refine At.region tab_ok ?_
  conv => whnf
  repeat refine At.seq ?_
  refine At.block ?_
  refine At.loopH (fun k : Nat => { N := Try.f12.ntmps, sl := [(7, some (.b true)), (8, some (.s (.c (.o 0 vl)))), (10, some (.s (.c (.o 1 va)))), (14, some (.i k))], gl := [], hp := [(1, .row va 56 3 (all.map encS)), (0, .row vl 58 7 (L.map encL))], S := [], ws := w }) (fun k : Nat => k ≤ L.length) (fun k : Nat => L.length - k)
    (fun w' hw => ⟨0, Nat.zero_le _, Le.of rfl rfl ⟨rfl, rfl, rfl, rfl, trivial⟩, hw.keep [1, 0] rfl rfl rfl, ⟨⟨_, _, _, rfl⟩, ⟨_, _, _, rfl⟩, trivial⟩, ⟨(nopS _).okH, (nopL _).okH, trivial⟩⟩) ?_
  intro k hk
  repeat refine At.seq ?_
  refine At.region tab_ok ?_
  conv => whnf
  refine ⟨rfl, ?_⟩
  conv => whnf
  repeat refine At.seq ?_
  refine At.cond rfl (fun hc => At.skip ?_) (fun hc => At.exit ?_)
  · have hlt : k < L.length := by have := of_decide_eq_true hc; (try simp only [List.length_map] at this); omega
    obtain ⟨x, hx⟩ : ∃ x, L[k]? = some x := ⟨_, List.getElem?_eq_getElem hlt⟩
    have hok := hg.ord.ok x (List.mem_of_getElem? hx)
    unfold lotOk at hok
    have hux := hused x (List.mem_of_getElem? hx)
    have hcl := common_len [x.s] all (norm_one_len x.s)
    repeat refine At.seq ?_
    refine At.block ?_
    repeat refine At.seq ?_
    refine At.region tab_ok ?_
    conv => whnf
    refine ⟨rfl, ?_⟩
    conv => whnf
    refine ⟨by omega, ?_⟩
    conv => whnf
    refine ⟨by (try simp only [List.length_map]); omega, ?_⟩
    conv => whnf
    refine ⟨encL x, ⟨rfl, rfl, by omega, by rw [Int.toNat_natCast, List.getElem?_map, hx]; rfl⟩, ?_⟩
    conv => whnf
    intro b15
    conv => whnf
    repeat refine At.seq ?_
    refine At.region tab_ok ?_
    conv => whnf
    intro r0
    conv => whnf
    refine ansR_call b41 (rd1 (nopS _)) (fun w' hw => common_c [x.s] all [] [] r0 va w' (slS [x.s] (hw.row (id := 3) rfl) (by simp)) (slS _ (hw.row (id := 1) rfl) (by omega)) (by simp) (by omega)) ?_
    intro r1
    conv => whnf
    refine ans_call b27 rfl (fun w' hw => count_c _ [] r1 w' (slS _ (hw.row (id := 4) rfl) (by omega)) (by omega)) ?_
    rw [hux]
    conv => whnf
    repeat refine At.seq ?_
    refine At.join (fun q : Unit => { N := Try.f12.ntmps, sl := [(7, some (.b true)), (8, some (.s (.c (.o 0 vl)))), (10, some (.s (.c (.o 1 va)))), (14, some (.i k)), (111, some (.b false))], gl := [], hp := [(1, .row va 56 3 (all.map encS)), (0, .row vl 58 7 (L.map encL))], S := [], ws := w }) (fun q : Unit => True) ?_ ?_
    · by_cases hp : x.p = -1
      · rw [if_pos hp]
        repeat refine At.seq ?_
        refine At.regionG tab_ok ?_
        conv => whnf
        rw [decide_eq_true hp]
        conv => whnf
        rw [decide_eq_true hp]
        conv => whnf
        refine ⟨⟨by omega, by omega⟩, ?_⟩
        conv => whnf
        refine At.meet fun w' hw => ⟨(), trivial, Le.of rfl rfl ⟨rfl, rfl, rfl, rfl, congrArg Value.bool (by simp), trivial⟩, hw.keep [1, 0] rfl rfl rfl, ⟨⟨_, _, _, rfl⟩, ⟨_, _, _, rfl⟩, trivial⟩, ⟨(nopS _).okH, (nopL _).okH, trivial⟩⟩
      · rw [if_neg hp]
        repeat refine At.seq ?_
        refine At.regionG tab_ok ?_
        conv => whnf
        rw [decide_eq_false hp]
        conv => whnf
        rw [decide_eq_false hp]
        conv => whnf
        refine At.meet fun w' hw => ⟨(), trivial, Le.of rfl rfl ⟨rfl, rfl, rfl, rfl, rfl, trivial⟩, hw.keep [1, 0] rfl rfl rfl, ⟨⟨_, _, _, rfl⟩, ⟨_, _, _, rfl⟩, trivial⟩, ⟨(nopS _).okH, (nopL _).okH, trivial⟩⟩
    intro _ _
    repeat refine At.seq ?_
    refine At.cond (t := false) rfl (fun hq => by cases hq) (fun hq => At.skip ?_)
    repeat refine At.seq ?_
    refine At.region tab_ok ?_
    conv => whnf
    refine ⟨⟨by omega, by omega⟩, ?_⟩
    conv => whnf
    refine At.nextH fun w' hw => ⟨k + 1, by omega, by omega, Le.of rfl rfl ⟨rfl, rfl, rfl, rfl, trivial⟩, hw.keep [1, 0] rfl rfl rfl, ⟨⟨_, _, _, rfl⟩, ⟨_, _, _, rfl⟩, trivial⟩, ⟨(nopS _).okH, (nopL _).okH, trivial⟩⟩
  repeat refine At.seq ?_
  refine At.region tab_ok ?_
  conv => whnf
  repeat refine At.seq ?_
  refine At.ret (At.doneB tab_ok hB _ rfl fun w' hw => ⟨rfl, hw.fr⟩)
end Go.Proofs.Ytjilbkioieicbaa


namespace Go.Proofs.Ytjilbkioieicbaa.leaseOne
open Go.ChangeShapes Go.WideShapes Go.ChangeAt Go.RowKit
set_option linter.unusedVariables false
theorem own : ownKnob Try.prog.godebug = none := by kernel_rfl
set_option maxRecDepth 100000 in
theorem lifted (os : Os) (started : os.Started) (H : Type) (enc : TypeId × Value → H) :
    ReturnsInHanded {} Try.checked os 12 .any (Rows.leaseOneSpec.pre6 enc Try.prog Try.f12 Rows.leaseOneRow.domain false) (Rows.leaseOneSpec.post enc Try.prog Try.f12 false true false false) := by
  refine returnsInHanded_of_change (C := Try.checked) own started (by kernel_rfl) Try.func12
    (ChangeSpec.witness6 (enc := enc) (C := Try.checked) false ⟨#[], #[.slice none 0 0, .slice none 0 0, .slice none 0 0], []⟩ 8 (by kernel_rfl) (by kernel_rfl) (by kernel_rfl) (by kernel_rfl)) ?_
  intro W base args ds gs before hval0 hW hcnd _
  have hval : ∀ (j : Nat) t v, Try.f12.params[j]? = some t → args[j]? = some v → Value.okWide Try.prog W .any base t v := hval0
  have hW' := hW
  obtain ⟨p, q, hA0, hV, rfl, hfz, hnd⟩ := hW
  have hA : DataW.TrodAll enc Try.prog W 0 (fun _ => true) true Try.f12.params.toList args.toList ds p := hA0
  rw [Try.params12] at hA hval
  obtain ⟨v0, vs0, d0, ds0, p0, q0, hargs, rfl, rfl, h0, r0⟩ := trodAll_cons hA
  obtain ⟨v1, vs1, d1, ds1, p1, q1, rfl, rfl, rfl, h1, r1⟩ := trodAll_cons r0
  obtain ⟨v2, vs2, d2, ds2, p2, q2, rfl, rfl, rfl, h2, r2⟩ := trodAll_cons r1
  obtain ⟨rfl, rfl, rfl⟩ := trodAll_nil r2
  obtain rfl : args = #[v0, v1, v2] := by cases args; simp_all
  obtain ⟨rfl, rfl⟩ := trodVars_none hV
  have k0 := h0
  have lt0 : ∀ x ∈ p0, x.block < W.heap.size := fun x hx => hW'.lt x (by simp [hx])
  obtain ⟨l0, s0⟩ := deeds_open (okWide_slice u45 (hval 0 45 v0 rfl rfl)) h0
  have k1 := h1
  have lt1 : ∀ x ∈ p1, x.block < W.heap.size := fun x hx => hW'.lt x (by simp [hx])
  obtain ⟨l1, s1⟩ := seen_open (okWide_slice u73 (hval 1 73 v1 rfl rfl)) h1
  have k2 := h2
  have lt2 : ∀ x ∈ p2, x.block < W.heap.size := fun x hx => hW'.lt x (by simp [hx])
  obtain ⟨l2, s2⟩ := days_open (okWide_slice u22 (hval 2 22 v2 rfl rfl)) h2
  clear hA0 hval0
  simp only [List.append_nil] at hW'
  refine (leaseOne_c l0 l1 l2 v0 v1 v2 W s0 s1 s2).mono fun e W' ⟨he, hx⟩ => ?_
  subst he
  exact ⟨_, rfl, _, _, _, [], _, [], hW', trodAll_cons_mk (shut_bool u4 _) trodAll_mk0, (trodAll_cons_mk (Below.trod laid (by kernel_rfl) (of_decide_eq_true (by kernel_rfl)) k0 hx.below lt0) (trodAll_cons_mk (Below.trod laid (by kernel_rfl) (of_decide_eq_true (by kernel_rfl)) k1 hx.below lt1) (trodAll_cons_mk (Below.trod laid (by kernel_rfl) (of_decide_eq_true (by kernel_rfl)) k2 hx.below lt2) trodAll_mk0))), rfl, hx.below.frame _, fun h => by cases h⟩

theorem over : Rows.leaseOneRow.holds Try.pinned (OpenSpec.ofChange Rows.leaseOneSpec) :=
  OpenClaim.holds_of_wide 12 Try.f12 rfl rfl rfl rfl rfl rfl rfl ⟨rfl, rfl, rfl, rfl, rfl⟩ rfl rfl rfl rfl rfl (by kernel_rfl) Try.func12 (by kernel_rfl)
    (of_decide_eq_true (by kernel_rfl)) (by unfold Func.isWrapper; first | (rw [if_pos (by decide +kernel)]; kernel_rfl) | (rw [if_neg (by decide +kernel)]; exact ⟨rfl, rfl⟩))
    (fun os started H enc _ => lifted os started H enc)

/-- The statement. -/
theorem proved : Rows.LeaseOneSaid :=
  over
#print axioms proved
end Go.Proofs.Ytjilbkioieicbaa.leaseOne

