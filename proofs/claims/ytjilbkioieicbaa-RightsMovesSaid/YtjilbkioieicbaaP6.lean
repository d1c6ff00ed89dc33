/- Deeds, as functions of the coins; lots are known by their coins. -/
import Derived.Test.YtjilbkioieicbaaP5
namespace Go.Proofs.Ytjilbkioieicbaa
open Go.Vc Rt
set_option linter.unusedVariables false
set_option linter.unusedSimpArgs false
theorem Has.one {s : Span} {m n : Int} : Has [s] m n ↔ s.m = m ∧ s.f ≤ n ∧ n < s.t := by
  rw [Has.cons]; exact ⟨fun h => h.resolve_right Has.nil, .inl⟩
theorem sta_none_of {L : List Lot} {m n : Int} (h : ∀ l ∈ L, l.s.m ≠ m) : sta L m n = none := sta_none.2 fun ⟨l, hl, hc⟩ => h l hl (inLot_iff.1 hc).1
theorem there_iff {L : List Lot} (h : Ord L) {m : Int} : there L m = true ↔ ∃ n x, sta L m n = some x := by
  constructor
  · intro ht
    unfold there at ht
    split at ht
    · rename_i l hl
      have hm : l.s.m = m := of_decide_eq_true ht
      exact ⟨l.s.f, stL l, by rw [← hm]; exact sta_first h (List.mem_of_getElem? hl)⟩
    · cases ht
  · rintro ⟨n, x, hx⟩
    cases ht : there L m
    · have hlt := (takeWhile_lt (m := m) (ord_sorted h)).1
      have hgt := there_false (ord_sorted h) ht
      have : sta L m n = none := sta_none_of fun l hl => by
        rw [← List.take_append_drop (before L m) L] at hl
        rcases List.mem_append.1 hl with hl | hl
        · have := hlt l hl; omega
        · have := hgt l hl; omega
      rw [this] at hx; cases hx
    · rfl
theorem sta_ins {L : List Lot} {i : Nat} {x : Lot} (h : ∀ l ∈ L, l.s.m ≠ x.s.m) (m n : Int) : sta (insL L i x) m n = if inLot m n x = true then some (stL x) else sta L m n := by
  unfold insL
  rw [sta_append, sta_append, sta_cons, sta_nil]
  by_cases hx : inLot m n x = true
  · have e1 : sta (L.take i) m n = none := sta_none_of fun l hl => by rw [← (inLot_iff.1 hx).1]; exact h l (List.mem_of_mem_take hl)
    rw [if_pos hx, if_pos hx, e1]; rfl
  · rw [if_neg hx, if_neg hx, Option.or_none, ← sta_append, List.take_append_drop]
open Classical in
/-- The error of a deed. -/
noncomputable def errF (F : Int → Int → Option Sta) (d : Deed) : Int :=
  if right d = false then 1 else if d.kind = 0 then (if ∃ n x, F d.mark n = some x then 5 else 0)
  else if ∃ m n, Has d.spans m n ∧ F m n = none then 4 else errSet (fun c => ∃ m n x, Has d.spans m n ∧ F m n = some x ∧ mayS x d = c)
open Classical in
/-- What becomes of the coins. -/
noncomputable def stepF (F : Int → Int → Option Sta) (d : Deed) (m n : Int) : Option Sta :=
  if errF F d = 0 then (if Has d.spans m n then (if d.kind = 0 then some ⟨d.author, d.author, 0, -1⟩ else (F m n).map (movedS d)) else F m n) else F m n
theorem all_iff {F : Int → Int → Option Sta} {l : List Span} : (∀ s ∈ l, allIn F s) ↔ ¬ ∃ m n, Has l m n ∧ F m n = none := by
  constructor
  · rintro h ⟨m, n, ⟨s, hs, rfl, h1, h2⟩, h3⟩
    obtain ⟨x, hx⟩ := h s hs n h1 h2
    rw [hx] at h3; cases h3
  · intro h s hs n h1 h2
    cases hx : F s.m n with
    | none => exact (h ⟨s.m, n, ⟨s, hs, rfl, h1, h2⟩, hx⟩).elim
    | some x => exact ⟨x, rfl⟩
theorem errSet_congr3 {P Q : Int → Prop} (h1 : P 29 ↔ Q 29) (h2 : P 27 ↔ Q 27) (h3 : P 28 ↔ Q 28) : errSet P = errSet Q := by
  unfold errSet
  by_cases a : Q 29
  · rw [if_pos a, if_pos (h1.2 a)]
  · rw [if_neg a, if_neg (fun h => a (h1.1 h))]
    by_cases b : Q 27
    · rw [if_pos b, if_pos (h2.2 b)]
    · rw [if_neg b, if_neg (fun h => b (h2.1 h))]
      by_cases c : Q 28
      · rw [if_pos c, if_pos (h3.2 c)]
      · rw [if_neg c, if_neg (fun h => c (h3.1 h))]
theorem err_iff {F : Int → Int → Option Sta} {l : List Span} {d : Deed} : errSet (fun c => c = 0 ∨ ∃ s ∈ l, ∃ n x, (s.f ≤ n ∧ n < s.t) ∧ F s.m n = some x ∧ mayS x d = c) = errSet (fun c => ∃ m n x, Has l m n ∧ F m n = some x ∧ mayS x d = c) := by
  have key : ∀ c, (∃ s ∈ l, ∃ n x, (s.f ≤ n ∧ n < s.t) ∧ F s.m n = some x ∧ mayS x d = c) ↔ ∃ m n x, Has l m n ∧ F m n = some x ∧ mayS x d = c := fun c => by
    constructor
    · rintro ⟨s, hs, n, x, hn, h1, h2⟩
      exact ⟨s.m, n, x, ⟨s, hs, rfl, hn⟩, h1, h2⟩
    · rintro ⟨m, n, x, ⟨s, hs, rfl, hn⟩, h1, h2⟩
      exact ⟨s, hs, n, x, hn, h1, h2⟩
  refine (errSet_congr fun c => by rw [key c]).trans (b := errSet (fun c => c = 0 ∨ ∃ m n x, Has l m n ∧ F m n = some x ∧ mayS x d = c)) ?_
  have e : ∀ c : Int, c ≠ 0 → ((c = 0 ∨ ∃ m n x, Has l m n ∧ F m n = some x ∧ mayS x d = c) ↔ ∃ m n x, Has l m n ∧ F m n = some x ∧ mayS x d = c) := fun c hc => ⟨fun h => h.resolve_left hc, .inr⟩
  exact errSet_congr3 (e 29 (by decide)) (e 27 (by decide)) (e 28 (by decide))
theorem move_F {L : List Lot} {d : Deed} (h : Ord L) (hf : FullF (sta L)) (hr : right d = true) (hk : d.kind ≠ 0) :
    (moveB L d).2 = errF (sta L) d ∧ ∀ m n, sta (moveB L d).1 m n = stepF (sta L) d m n := by
  have hsp := right_spans hr
  obtain ⟨m1, m2, m3⟩ := mvRun_form (d := d) (l := d.spans) (e := 0) h hf (fun s hs => by have := hsp s hs; omega) (.inl rfl)
  obtain ⟨o1, o2, o3, o4⟩ := mvRun_spec (d := d) (l := d.spans) (e := 0) h
  rw [all_iff] at m2
  have hr' : ¬ right d = false := by rw [hr]; simp
  have eF : errF (sta L) d = if (mvRun d d.spans L 0).2.2 = false then 4 else (mvRun d d.spans L 0).2.1 := by
    unfold errF
    rw [if_neg hr', if_neg hk]
    by_cases hc : (mvRun d d.spans L 0).2.2 = true
    · rw [if_neg (m2.1 hc), if_neg (by simp [hc]), m3 hc, err_iff]
    · rw [if_pos (Classical.byContradiction fun h' => hc (m2.2 h')), if_pos (by simpa using hc)]
  unfold moveB stepF
  simp only
  rw [eF]
  by_cases hc : (mvRun d d.spans L 0).2.2 = false
  · rw [if_pos hc, if_pos hc]
    exact ⟨rfl, fun m n => by rw [if_neg (by decide)]; exact m1 m n⟩
  · rw [if_neg hc, if_neg hc]
    by_cases he : (mvRun d d.spans L 0).2.1 = 0
    · rw [if_neg (by simp [he])]
      refine ⟨he.symm, fun m n => ?_⟩
      rw [if_pos he]
      have hc' : (mvRun d d.spans L 0).2.2 = true := by simpa using hc
      have hcov := o4 hc'
      obtain ⟨k1, k2⟩ := mv2_form (d := d) (l := d.spans) o1 (fun x hx => by
        have := hcov x hx
        rw [o2, o2]
        exact ⟨this.1, this.2, by have := hsp x hx; omega⟩)
      by_cases hh : Has d.spans m n
      · rw [if_pos hh, if_neg hk]
        exact (k1 m n hh).trans (by rw [m1])
      · rw [if_neg hh]
        exact (k2 m n hh).trans (m1 m n)
    · rw [if_pos he]
      exact ⟨rfl, fun m n => by rw [if_neg he]; exact m1 m n⟩
theorem take_F {L : List Lot} {d : Deed} (h : Ord L) (hr : right d = true) (hk : d.kind = 0) :
    (takeB L d).2 = errF (sta L) d ∧ ∀ m n, sta (takeB L d).1 m n = stepF (sta L) d m n := by
  obtain ⟨s, hs, hm, hf⟩ := right_take hr hk
  have hr' : ¬ right d = false := by rw [hr]; simp
  have ht := there_iff h (m := d.mark)
  unfold takeB stepF errF
  rw [if_neg hr', if_pos hk]
  by_cases hc : there L d.mark = true
  · rw [if_pos hc, if_pos (ht.1 hc)]
    exact ⟨rfl, fun m n => by rw [if_neg (by decide)]⟩
  · rw [if_neg hc, if_neg (fun h' => hc (ht.2 h'))]
    refine ⟨rfl, fun m n => ?_⟩
    rw [if_pos rfl, hs, if_pos hk]
    simp only [List.headD_cons]
    rw [sta_ins (fun l hl hm' => hc (ht.2 ⟨l.s.f, stL l, by rw [← hm, ← hm']; exact sta_first h hl⟩))]
    by_cases hh : inLot m n ⟨s, d.author, d.author, 0, -1⟩ = true
    · rw [if_pos hh, if_pos (Has.one.2 (inLot_iff.1 hh))]; rfl
    · rw [if_neg hh, if_neg (fun h' => hh (inLot_iff.2 (Has.one.1 h')))]
theorem do_F {L : List Lot} {d : Deed} (h : Ord L) (hf : FullF (sta L)) : (doB L d).2 = errF (sta L) d ∧ ∀ m n, sta (doB L d).1 m n = stepF (sta L) d m n := by
  unfold doB
  by_cases hr : right d = true
  · rw [if_pos hr]
    by_cases hk : d.kind = 0
    · rw [if_pos hk]
      obtain ⟨h1, h2⟩ := take_F h hr hk
      exact ⟨h1, fun m n => (sta_merge (takeB_ord h hr hk) m n).trans (h2 m n)⟩
    · rw [if_neg hk]
      obtain ⟨h1, h2⟩ := move_F h hf hr hk
      exact ⟨h1, fun m n => (sta_merge (moveB_ord h hr).1 m n).trans (h2 m n)⟩
  · rw [if_neg hr]
    have : errF (sta L) d = 1 := by unfold errF; rw [if_pos (by simpa using hr)]
    refine ⟨this.symm, fun m n => ?_⟩
    unfold stepF
    rw [this, if_neg (by decide)]
theorem step_full {F : Int → Int → Option Sta} {d : Deed} (hf : FullF F) : FullF (stepF F d) := by
  intro m n k h0 hk hx
  by_cases he : errF F d = 0
  case neg =>
    unfold stepF at *
    rw [if_neg he] at *
    exact hf m n k h0 hk hx
  have hr : right d = true := by
    cases hr : right d
    · unfold errF at he; rw [if_pos hr] at he; cases he
    · rfl
  by_cases hd : d.kind = 0
  · obtain ⟨s, hs, hm, hf0⟩ := right_take hr hd
    unfold stepF at *
    rw [if_pos he] at *
    by_cases h1 : Has d.spans m k
    · rw [if_pos h1, if_pos hd]; exact ⟨_, rfl⟩
    · rw [if_neg h1]
      by_cases h2 : Has d.spans m n
      · rw [hs, Has.one] at h1 h2
        exact (h1 ⟨h2.1, by omega, by omega⟩).elim
      · rw [if_neg h2] at hx
        exact hf m n k h0 hk hx
  · have key : ∀ j, (∃ x, stepF F d m j = some x) ↔ ∃ x, F m j = some x := fun j => by
      unfold stepF
      rw [if_pos he, if_neg hd]
      split
      · cases F m j <;> simp
      · exact Iff.rfl
    rw [key] at *
    exact hf m n k h0 hk hx
def keyF (F : Int → Int → Option Sta) : Prop := ∀ m n x, F m n = some x → isKey x.o = true ∧ isKey x.h = true
theorem right_who {d : Deed} (h : right d = true) (hk : d.kind = 1 ∨ d.kind = 2) : isKey d.who = true ∧ d.who ≠ d.author := by
  unfold right at h
  split at h
  · cases h
  · rw [if_neg (by omega)] at h
    split at h
    · simp at h; exact h
    · rw [if_pos (by omega)] at h
      simp at h; exact ⟨h.1, h.2.1⟩
theorem right_kind {d : Deed} (h : right d = true) : d.kind = 0 ∨ d.kind = 1 ∨ d.kind = 2 ∨ d.kind = 3 := by
  unfold right at h
  split at h
  · cases h
  · split at h
    · omega
    · split at h
      · omega
      · split at h
        · omega
        · simp at h; omega
theorem err_right {F : Int → Int → Option Sta} {d : Deed} (he : errF F d = 0) : right d = true := by
  cases hr : right d
  · unfold errF at he; rw [if_pos hr] at he; cases he
  · rfl
theorem step_key {F : Int → Int → Option Sta} {d : Deed} (hf : keyF F) : keyF (stepF F d) := by
  intro m n x hx
  by_cases he : errF F d = 0
  case neg =>
    unfold stepF at hx
    rw [if_neg he] at hx
    exact hf m n x hx
  have hr := err_right he
  have ha := (right_parts hr).2.2.1
  unfold stepF at hx
  rw [if_pos he] at hx
  split at hx
  · split at hx
    · cases hx; exact ⟨ha, ha⟩
    · rename_i hk
      obtain ⟨y, hy, rfl⟩ := Option.map_eq_some_iff.1 hx
      have := hf m n y hy
      unfold movedS
      split
      · have := right_who hr (.inl (by assumption)); exact ⟨this.1, this.1⟩
      · split
        · have h2 := right_who hr (.inr (by assumption)); exact ⟨this.1, h2.1⟩
        · split <;> exact this
  · exact hf m n x hx
/-- Lots, as the deeds leave them. -/
structure Good (L : List Lot) : Prop where
  ord : Ord L
  mgd : Mgd L
  full : FullF (sta L)
  key : keyF (sta L)
theorem sta_fun {L : List Lot} {F : Int → Int → Option Sta} (h : ∀ m n, sta L m n = F m n) : sta L = F := by funext m n; exact h m n
theorem good_do {L : List Lot} {d : Deed} (h : Good L) (hs : d.spans.length ≤ 8) : Good (doB L d).1 ∧ (doB L d).2 = errF (sta L) d ∧ sta (doB L d).1 = stepF (sta L) d := by
  obtain ⟨k1, k2, _⟩ := doB_keeps h.ord h.mgd hs
  obtain ⟨f1, f2⟩ := do_F (d := d) h.ord h.full
  have e := sta_fun f2
  exact ⟨⟨k1, k2, by rw [e]; exact step_full h.full, by rw [e]; exact step_key h.key⟩, f1, e⟩
theorem good_nil : Good [] := ⟨⟨fun l hl => (by cases hl), .nil⟩, fun i a b h => (by simp at h), fun m n k _ _ ⟨x, hx⟩ => (by cases hx), fun m n x hx => (by cases hx)⟩
theorem good_lots : ∀ (n : Nat) (l : List Deed), l.length = n → (∀ d ∈ l, d.spans.length ≤ 8) → Good (lotsK l).1
  | 0, l, hn, _ => by
    have := List.eq_nil_of_length_eq_zero hn
    subst this
    exact good_nil
  | n + 1, l, hn, hs => by
    rcases List.eq_nil_or_concat l with rfl | ⟨l', d, rfl⟩
    · simp at hn
    · simp only [List.concat_eq_append] at *
      have := good_do (d := d) (good_lots n l' (by simpa using hn) (fun x hx => hs x (by simp [hx]))) (hs d (by simp))
      rw [lotsK_snoc]
      exact this.1
/-! ### Lots are known by their coins -/
theorem mgd_tail {l : Lot} {L : List Lot} (h : Mgd (l :: L)) : Mgd L := fun i a b ha hb => h (i + 1) a b (by simpa using ha) (by simpa using hb)
theorem sta_tail {l : Lot} {L : List Lot} (h : Ord (l :: L)) {m n : Int} : sta L m n = if inLot m n l = true then none else sta (l :: L) m n := by
  by_cases hc : inLot m n l = true
  · rw [if_pos hc]
    exact sta_none.2 fun ⟨x, hx, hx'⟩ => by rw [ord_apart h hc x hx] at hx'; cases hx'
  · rw [if_neg hc, sta_cons, if_neg hc]
theorem ord_first {l : Lot} {L : List Lot} (h : Ord (l :: L)) {m n : Int} {x : Sta} (hx : sta (l :: L) m n = some x) : l.s.m < m ∨ (l.s.m = m ∧ l.s.f ≤ n) := by
  obtain ⟨y, hy, hc, _⟩ := sta_mem hx
  rw [inLot_iff] at hc
  rcases List.mem_cons.1 hy with rfl | hy
  · omega
  · have h1 := (List.pairwise_cons.1 h.ord).1 y hy
    have h2 := h.ok l (List.mem_cons_self ..)
    unfold bef at h1; unfold lotOk at h2; omega
theorem lot_end {a b : Lot} {A B : List Lot} (hA : Ord (a :: A)) (hB : Ord (b :: B)) (mA : Mgd (a :: A)) (e : sta (a :: A) = sta (b :: B)) (hm : a.s.m = b.s.m) (hf : a.s.f = b.s.f) : b.s.t ≤ a.s.t := by
  rcases Int.lt_or_le a.s.t b.s.t with hlt | hge
  · exfalso
    have okA := hA.ok a (List.mem_cons_self ..)
    have okB := hB.ok b (List.mem_cons_self ..)
    unfold lotOk at okA okB
    have hb : inLot a.s.m a.s.t b = true := inLot_iff.2 (by omega)
    have h1 : sta (a :: A) a.s.m a.s.t = some (stL b) := by rw [e]; exact sta_some hB (List.mem_cons_self ..) hb
    have h0 : stL a = stL b := by
      have x1 := sta_first hA (List.mem_cons_self ..)
      have x2 := sta_first hB (List.mem_cons_self ..)
      rw [e, hm, hf, x2] at x1
      exact (Option.some.inj x1).symm
    have h2 : sta A a.s.m a.s.t = some (stL b) := by
      rw [sta_cons, if_neg (by rw [inLot_iff]; omega)] at h1; exact h1
    cases A with
    | nil => cases h2
    | cons c C =>
      obtain ⟨y, hy, hc, hst⟩ := sta_mem h2
      rw [inLot_iff] at hc
      have hc1 := (List.pairwise_cons.1 hA.ord).1 c (List.mem_cons_self ..)
      have okc := hA.ok c (by simp)
      unfold lotOk at okc; unfold bef at hc1
      have hyc : y = c := by
        rcases List.mem_cons.1 hy with h | h
        · exact h
        · have := (List.pairwise_cons.1 (ord_tail hA).ord).1 y h
          unfold bef at this; omega
      subst hyc
      have := mA 0 a y rfl rfl
      have hs : stL a = stL y := h0.trans hst.symm
      unfold stL at hs
      simp only [Sta.mk.injEq] at hs
      have hal : alike a y = true := by unfold alike; simp [hs]; omega
      rw [hal] at this; cases this
  · exact hge
theorem lots_ext : ∀ {A B : List Lot}, Ord A → Ord B → Mgd A → Mgd B → sta A = sta B → A = B
  | [], [], _, _, _, _, _ => rfl
  | a :: A, [], hA, _, _, _, e => by
    have := sta_first hA (List.mem_cons_self ..)
    rw [e] at this; cases this
  | [], b :: B, _, hB, _, _, e => by
    have := sta_first hB (List.mem_cons_self ..)
    rw [← e] at this; cases this
  | a :: A, b :: B, hA, hB, mA, mB, e => by
    have x1 := sta_first hA (List.mem_cons_self ..)
    have x2 := sta_first hB (List.mem_cons_self ..)
    have y1 := ord_first hB (by rw [← e]; exact x1)
    have y2 := ord_first hA (by rw [e]; exact x2)
    have hm : a.s.m = b.s.m := by omega
    have hf : a.s.f = b.s.f := by omega
    have t1 := lot_end hA hB mA e hm hf
    have t2 := lot_end hB hA mB e.symm hm.symm hf.symm
    have hst : stL a = stL b := by
      rw [e, hm, hf, x2] at x1
      exact (Option.some.inj x1).symm
    unfold stL at hst
    simp only [Sta.mk.injEq] at hst
    have hab : a = b := Lot.ext' (Span.ext' hm hf (by omega)) hst.1 hst.2.1 hst.2.2.1 hst.2.2.2
    subst hab
    have : A = B := lots_ext (ord_tail hA) (ord_tail hB) (mgd_tail mA) (mgd_tail mB) (by
      funext m n
      rw [sta_tail hA, sta_tail hB, e])
    rw [this]
theorem Good.ext {A B : List Lot} (hA : Good A) (hB : Good B) (e : sta A = sta B) : A = B := lots_ext hA.ord hB.ord hA.mgd hB.mgd e
end Go.Proofs.Ytjilbkioieicbaa
