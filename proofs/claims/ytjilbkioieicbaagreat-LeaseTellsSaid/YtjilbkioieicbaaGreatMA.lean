/- Texts that the law uses: A1 A2 A3 A4 A5. -/
import Derived.Test.YtjilbkioieicbaaGreatMG
import Derived.Test.YtjilbkioieicbaaGreatMF
import Derived.Test.YtjilbkioieicbaaGreatVcFam
/- LeaseTells: what the reference of layer 28 computes is what lease computes. -/
namespace Go.Proofs.YtjilbkioieicbaaGreat
open Go.Vc Rt
set_option linter.unusedVariables false
set_option linter.unusedSimpArgs false
def lateQ (d : Deed) (x : Sta) : Bool := !decide (x.o = x.h) && (decide (x.h = d.author) && decide (x.u < d.day))
def lateR (d : Deed) (L : List Lot) : Bool := (cutAll d.spans L).any fun l => inD d l && lateQ d (stL l)
def freeR (d : Deed) (seen : List Int) (L : List Lot) : List Lot := if d.kind ≠ 0 ∧ right d = true then (cutAll d.spans L).map (bkL d seen) else L
def refL (d : Deed) (seen : List Int) (L : List Lot) : List Lot × Int :=
  if (refDo d (mergeL (freeR d seen L))).2 ≠ 0 then (L, (refDo d (mergeL (freeR d seen L))).2) else if (d.kind ≠ 0 ∧ right d = true) ∧ lateR d L = true then (L, 25) else ((refDo d (mergeL (freeR d seen L))).1, 0)
theorem back_is {L : List Lot} (h : Ord L) (d : Deed) (seen : List Int) (hr : right d = true) : backRun d seen L = mergeL ((cutAll d.spans L).map (bkL d seen)) := by
  obtain ⟨ho, hm, hs, _⟩ := back_specN h d seen
  have hn := norm_spans hr
  obtain ⟨c1, c2, c3, _, c5⟩ := cutAll_spec d.spans h
  have hC : Ord ((cutAll d.spans L).map (bkL d seen)) := ord_congr (by rw [List.map_map]; exact List.map_congr_left fun l _ => (bkL_s d seen l).symm) c1
  refine lots_ext ho (merge_ord hC) hm (merge_mgd _) ?_
  rw [hs]
  funext m n
  rw [sta_merge hC, sta_back c1 (fun l hl n hn' => by rw [hn]; exact in_out c5 hl hn' (by have := c1.ok l hl; unfold lotOk at this; omega))]
  unfold backF; rw [c2]
theorem late_is {L : List Lot} (hg : Good L) {d : Deed} (hr : right d = true) : lateR d L = L.any (lateB d) := by
  have e : lateR d L = true ↔ L.any (lateB d) = true := by
    rw [late_iff hg.ord]
    unfold lateR Late
    rw [any_coin hg hr (lateQ d), norm_spans hr]
    constructor
    · rintro ⟨m, n, x, h1, h2, h3⟩
      unfold lateQ at h3
      simp only [Bool.and_eq_true, Bool.not_eq_true', decide_eq_true_eq, decide_eq_false_iff_not] at h3
      exact ⟨m, n, x, h1, h2, h3.2.1, fun e => h3.1 (by rw [e, h3.2.1]), h3.2.2⟩
    · rintro ⟨m, n, x, h1, h2, h3, h4, h5⟩
      refine ⟨m, n, x, h1, h2, ?_⟩
      unfold lateQ
      simp only [Bool.and_eq_true, Bool.not_eq_true', decide_eq_true_eq, decide_eq_false_iff_not]
      exact ⟨fun e => h4 (by rw [e, h3]), h3, h5⟩
  cases h1 : lateR d L <;> cases h2 : L.any (lateB d) <;> simp_all
theorem refL_eq {L : List Lot} (hg : Good L) {d : Deed} (seen : List Int) (h8 : d.spans.length ≤ 8) : refL d seen L = leaseDo d seen L := by
  by_cases hr : right d = true
  · by_cases hk : d.kind = 0
    · have e1 : freeR d seen L = L := by unfold freeR; rw [if_neg (fun h => h.1 hk)]
      have e2 : freeL d seen L = L := by unfold freeL; rw [if_pos hk]
      unfold refL leaseDo
      rw [e1, e2, merge_id hg.mgd, refDo_eq hg h8]
      by_cases he : (doB L d).2 = 0
      · rw [if_neg (fun h => h he), if_neg (fun h => h.1.1 hk), if_pos he, if_neg (fun h => h.1 hk)]
      · rw [if_pos he, if_neg he]
    · have e2 : freeL d seen L = backRun d seen L := by unfold freeL; rw [if_neg hk]
      have e1 : mergeL (freeR d seen L) = backRun d seen L := by unfold freeR; rw [if_pos ⟨hk, hr⟩]; exact (back_is hg.ord d seen hr).symm
      have hgb := (good_freeN hg d seen).1
      rw [e2] at hgb
      unfold refL leaseDo
      rw [e1, e2, refDo_eq hgb h8, late_is hg hr]
      by_cases he : (doB (backRun d seen L) d).2 = 0
      · rw [if_neg (fun h => h he), if_pos he]
        by_cases hl : L.any (lateB d) = true
        · rw [if_pos ⟨⟨hk, hr⟩, hl⟩, if_pos ⟨hk, hl⟩]
        · rw [if_neg (fun h => hl h.2), if_neg (fun h => hl h.2)]
      · rw [if_pos he, if_neg he]
  · have hr' : right d = false := by simpa using hr
    have e1 : ∀ X, (refDo d X).2 = 1 := fun X => by unfold refDo; rw [if_pos hr']
    have e2 : ∀ X, (doB X d).2 = 1 := fun X => by unfold doB; rw [hr']; rfl
    unfold refL leaseDo
    rw [e1, e2, if_pos (by decide), if_neg (by decide)]
def refLF (ps : List (Deed × List Int)) : List Lot × List Int := ps.foldl (fun p x => ((refL x.1 x.2 p.1).1, p.2 ++ [(refL x.1 x.2 p.1).2])) ([], [])
theorem refLF_eq : ∀ (n : Nat) (ps : List (Deed × List Int)), ps.length = n → (∀ x ∈ ps, x.1.spans.length ≤ 8) → refLF ps = leaseF ps
  | 0, ps, hn, _ => by rw [List.eq_nil_of_length_eq_zero hn]; rfl
  | n + 1, ps, hn, h8 => by
    obtain ⟨l, x, rfl⟩ : ∃ l x, ps = l ++ [x] := ⟨ps.dropLast, ps.getLast (by intro h; rw [h] at hn; cases hn), (List.dropLast_concat_getLast _).symm⟩
    have ih := refLF_eq n l (by simpa using hn) fun y hy => h8 y (by simp [hy])
    have hg := (leaseF_good n l (by simpa using hn) fun y hy => h8 y (by simp [hy])).1
    rw [leaseF_snoc]
    unfold refLF at ih ⊢
    rw [List.foldl_append, ih]
    show ((refL x.1 x.2 (leaseF l).1).1, (leaseF l).2 ++ [(refL x.1 x.2 (leaseF l).1).2]) = _
    rw [refL_eq hg x.2 (h8 x (by simp))]
end Go.Proofs.YtjilbkioieicbaaGreat

/- Walks of the reference 28: Of, May, Usable. -/
namespace Go.Proofs.YtjilbkioieicbaaGreat
open Go.Vc Rt
set_option linter.unusedVariables false
set_option linter.unusedSimpArgs false
theorem bz8 : Body Tryz.prog 8 := ⟨Tryz.f8, Tryz.func8, rfl, rfl⟩
theorem bz12 : Body Tryz.prog 12 := ⟨Tryz.f12, Tryz.func12, rfl, rfl⟩
theorem bz14 : Body Tryz.prog 14 := ⟨Tryz.f14, Tryz.func14, rfl, rfl⟩
theorem bz15 : Body Tryz.prog 15 := ⟨Tryz.f15, Tryz.func15, rfl, rfl⟩
theorem bz17 : Body Tryz.prog 17 := ⟨Tryz.f17, Tryz.func17, rfl, rfl⟩
theorem bz27 : Body Tryz.prog 27 := ⟨Tryz.f27, Tryz.func27, rfl, rfl⟩
theorem bz29 : Body Tryz.prog 29 := ⟨Tryz.f29, Tryz.func29, rfl, rfl⟩
theorem ofR_c (seen : List Int) (k : Int) (S : List Nat) (v : Value) (w : World) (h : SlOf intT S w v seen) : Ans Tryz.prog 29 [v, vI k] (.i (ofK seen k)) w := by
  replace h := h.avoid (S' := []) (fun b hb => by cases hb)
  have hl := h.len
  refine calls_plainB [.x v, .i k] Tryz.func29 rfl rfl (Nat.le_of_ble_eq_true rfl) rfl fun B hB => ?_
  repeat refine At.seq ?_
  refine At.region tab_ok ?_
  conv => whnf
  repeat refine At.seq ?_
  refine At.region tab_ok ?_
  conv => whnf
  refine ⟨by simp only [gimp]; intro _; exact h.sl, ?_⟩
  conv => whnf
  repeat refine At.seq ?_
  refine At.cond rfl (fun hq => ?_) (fun hq => ?_)
  · repeat refine At.seq ?_
    refine At.region tab_ok ?_
    conv => whnf
    repeat refine At.seq ?_
    refine At.ret (At.doneB tab_ok hB _ rfl fun w' hw => ⟨?_, hw.fr⟩)
    simp only [bor, Bool.or_eq_true, decide_eq_true_eq] at hq
    unfold ofK
    split
    · rfl
    · rw [List.getD_eq_getElem?_getD, List.getElem?_eq_none (by omega)]; rfl
  · simp only [bor, Bool.or_eq_false_iff, decide_eq_false_iff_not] at hq
    refine At.skip ?_
    obtain ⟨x, hx⟩ : ∃ x, seen[k.toNat]? = some x := ⟨_, List.getElem?_eq_getElem (by omega)⟩
    repeat refine At.seq ?_
    refine At.region tab_ok ?_
    conv => whnf
    refine ⟨by omega, ?_⟩
    conv => whnf
    refine ⟨by omega, ?_⟩
    conv => whnf
    refine ⟨[.i x], fun w' hw => h.loadI (n := 1) hw.fr (by omega) hx rfl, ?_⟩
    conv => whnf
    repeat refine At.seq ?_
    refine At.ret (At.doneB tab_ok hB _ rfl fun w' hw => ⟨?_, hw.fr⟩)
    unfold ofK
    rw [if_neg (by omega), List.getD_eq_getElem?_getD, hx]
    rfl
theorem mayR_c (l : Lot) (key day seen : Int) (w : World) : Ans Tryz.prog 12 [vL l, vI key, vI day, vI seen] (.i (mayU l key day seen)) w := by
  refine calls_plainB [.s (.agg (encL l)), .i key, .i day, .i seen] Tryz.func12 rfl rfl (Nat.le_of_ble_eq_true rfl) rfl fun B hB => ?_
  repeat refine At.seq ?_
  refine At.region tab_ok ?_
  conv => whnf
  intro b1
  conv => whnf
  repeat refine At.seq ?_
  refine At.region tab_ok ?_
  conv => whnf
  repeat refine At.seq ?_
  refine At.cond rfl (fun hq => ?_) (fun hq => ?_)
  · repeat refine At.seq ?_
    refine At.region tab_ok ?_
    conv => whnf
    repeat refine At.seq ?_
    refine At.ret (At.doneB tab_ok hB _ rfl fun w' hw => ⟨?_, hw.fr⟩)
    simp at hq
    simp [mayU, hq, RV.den, SV.den, CV.den, ofConst]
  · have h1 : l.p = -1 := by simpa using hq
    refine At.skip ?_
    repeat refine At.seq ?_
    refine At.region tab_ok ?_
    conv => whnf
    repeat refine At.seq ?_
    refine At.cond rfl (fun hq => ?_) (fun hq => ?_)
    · repeat refine At.seq ?_
      refine At.region tab_ok ?_
      conv => whnf
      repeat refine At.seq ?_
      refine At.ret (At.doneB tab_ok hB _ rfl fun w' hw => ⟨?_, hw.fr⟩)
      simp only [band, Bool.and_eq_true, Bool.not_eq_true', decide_eq_false_iff_not] at hq
      unfold mayU; rw [if_neg (by simpa using h1), if_pos hq]
    · have h2 : ¬ (key ≠ l.o ∧ key ≠ l.h) := by
        rintro ⟨a, b⟩; simp [a, b] at hq
      refine At.skip ?_
      repeat refine At.seq ?_
      refine At.region tab_ok ?_
      conv => whnf
      repeat refine At.seq ?_
      refine At.cond rfl (fun hq => ?_) (fun hq => ?_)
      · repeat refine At.seq ?_
        refine At.region tab_ok ?_
        conv => whnf
        repeat refine At.seq ?_
        refine At.ret (At.doneB tab_ok hB _ rfl fun w' hw => ⟨?_, hw.fr⟩)
        have he : l.o = l.h := of_decide_eq_true hq
        unfold mayU; rw [if_neg (by simpa using h1), if_neg h2, if_neg (by omega), if_neg (by omega)]
      · have hne : ¬ l.o = l.h := of_decide_eq_false hq
        refine At.skip ?_
        repeat refine At.seq ?_
        refine At.region tab_ok ?_
        conv => whnf
        repeat refine At.seq ?_
        refine At.cond rfl (fun hq => ?_) (fun hq => ?_)
        · repeat refine At.seq ?_
          refine At.region tab_ok ?_
          conv => whnf
          repeat refine At.seq ?_
          refine At.ret (At.doneB tab_ok hB _ rfl fun w' hw => ⟨?_, hw.fr⟩)
          simp only [band, Bool.and_eq_true, Bool.not_eq_true', decide_eq_false_iff_not, decide_eq_true_eq] at hq
          unfold mayU; rw [if_neg (by simpa using h1), if_neg h2, if_pos (by omega)]
        · have h3 : ¬ (key = l.o ∧ seen ≤ l.u) := by
            rintro ⟨a, b⟩; simp [a, b] at hq
          refine At.skip ?_
          repeat refine At.seq ?_
          refine At.region tab_ok ?_
          conv => whnf
          repeat refine At.seq ?_
          refine At.cond rfl (fun hq => ?_) (fun hq => ?_)
          · repeat refine At.seq ?_
            refine At.region tab_ok ?_
            conv => whnf
            repeat refine At.seq ?_
            refine At.ret (At.doneB tab_ok hB _ rfl fun w' hw => ⟨?_, hw.fr⟩)
            simp only [band, Bool.and_eq_true, Bool.not_eq_true', decide_eq_false_iff_not, decide_eq_true_eq] at hq
            unfold mayU; rw [if_neg (by simpa using h1), if_neg h2, if_neg (by omega), if_pos (by omega)]
          · have h4 : ¬ (key = l.h ∧ l.u < day) := by
              rintro ⟨a, b⟩; simp [a, b] at hq
            refine At.skip ?_
            repeat refine At.seq ?_
            refine At.region tab_ok ?_
            conv => whnf
            repeat refine At.seq ?_
            refine At.ret (At.doneB tab_ok hB _ rfl fun w' hw => ⟨?_, hw.fr⟩)
            unfold mayU; rw [if_neg (by simpa using h1), if_neg h2, if_neg (by omega), if_neg (by omega)]
theorem usableR_c (L : List Lot) (key day : Int) (seen : List Int) (v z : Value) (w : World) (h : SlOf loT [] w v L) (hz : SlOf intT [] w z seen) (hN : L.length ≤ 800000) : AnsR Tryz.prog 17 [v, vI key, vI day, z] [.row 25 3 ((usableL L key day seen).map encS)] w := by
  have hl := h.len
  have hus : usableL L key day seen = norm ((L.filter fun l => decide (mayU l key day (ofK seen l.h) = 0)).map (·.s)) := rfl
  have hst : ∀ {k : Nat} {x : Lot}, L[k]? = some x → ((L.take (k + 1)).filter fun l => decide (mayU l key day (ofK seen l.h) = 0)).map (·.s) = ((L.take k).filter fun l => decide (mayU l key day (ofK seen l.h) = 0)).map (·.s) ++ (if mayU x key day (ofK seen x.h) = 0 then [x.s] else []) := fun {k x} hx => by
    rw [List.take_add_one, hx, List.filter_append, List.map_append]
    congr 1
    simp only [Option.toList_some, List.filter_cons, List.filter_nil]
    split <;> simp_all
  have hln : ∀ k, (((L.take k).filter fun l => decide (mayU l key day (ofK seen l.h) = 0)).map (·.s)).length ≤ k := fun k => by
    rw [List.length_map]
    exact Nat.le_trans (List.length_filter_le ..) (by simp; omega)
  rw [hus]
  refine calls_plainB [.x v, .i key, .i day, .x z] Tryz.func17 rfl rfl (Nat.le_of_ble_eq_true rfl) rfl fun B hB => ?_
  repeat refine At.seq ?_
  refine At.region tab_ok ?_
  conv => whnf
  repeat refine At.seq ?_
  refine At.region tab_ok ?_
  conv => whnf
  repeat refine At.seq ?_
  refine At.region tab_ok ?_
  conv => whnf
  repeat refine At.seq ?_
  refine At.block ?_
  refine At.loopH (fun p : Nat × Value => { N := Tryz.f17.ntmps, sl := [(0, some (.x v)), (1, some (.i key)), (2, some (.i day)), (3, some (.x z)), (9, some (.s (.c (.o 0 p.2)))), (10, some (.i p.1))], gl := [], hp := [(0, .row p.2 25 3 ((((L.take p.1).filter fun l => decide (mayU l key day (ofK seen l.h) = 0)).map (·.s)).map encS))], S := [], ws := w }) (fun p : Nat × Value => p.1 ≤ L.length) (fun p : Nat × Value => L.length - p.1)
    (fun w' hw => ⟨(0, .slice none 0 0), Nat.zero_le _, Le.of rfl rfl ⟨rfl, rfl, rfl, rfl, rfl, rfl, trivial⟩, hw.nil rfl rfl rfl, ⟨⟨_, _, _, rfl⟩, trivial⟩, ⟨(nopS _).okH, trivial⟩⟩) ?_
  rintro ⟨k, vo⟩ hk
  simp only at hk ⊢
  repeat refine At.seq ?_
  refine At.region tab_ok ?_
  conv => whnf
  refine ⟨h.sl, ?_⟩
  conv => whnf
  rw [hl]
  conv => whnf
  repeat refine At.seq ?_
  refine At.cond rfl (fun hc => At.skip ?_) (fun hc => At.exit ?_)
  · have hlt : k < L.length := by have := of_decide_eq_true hc; omega
    obtain ⟨x, hx⟩ : ∃ x, L[k]? = some x := ⟨_, List.getElem?_eq_getElem hlt⟩
    have hs1 := hst hx
    have hl1 := hln k
    generalize ((L.take k).filter fun l => decide (mayU l key day (ofK seen l.h) = 0)).map (·.s) = out at *
    repeat refine At.seq ?_
    refine At.block ?_
    repeat refine At.seq ?_
    refine At.draw tab_ok mixed (by kernel_rfl) ?_
    conv => whnf
    refine ⟨by omega, ?_⟩
    conv => whnf
    refine ⟨by omega, ?_⟩
    conv => whnf
    refine ⟨encL x, fun w' hw => h.load (n := 7) hw.fr hx rfl, ?_⟩
    conv => whnf
    refine ⟨by omega, ?_⟩
    conv => whnf
    refine ⟨by omega, ?_⟩
    conv => whnf
    refine ⟨[.i x.h], fun w' hw => h.load (n := 1) hw.fr hx rfl, ?_⟩
    conv => whnf
    refine ⟨.i (ofK seen x.h), ans_quiet bz29 (fun w' hw => ofR_c seen x.h [] z w' (hz.fr hw.fr)), ?_⟩
    conv => whnf
    refine ⟨.i (mayU x key day (ofK seen x.h)), ans_quiet bz12 (fun w' hw => mayR_c x key day (ofK seen x.h) w'), ?_⟩
    conv => whnf
    repeat refine At.seq ?_
    refine At.cond rfl (fun hq => ?_) (fun hq => ?_)
    · have hm : mayU x key day (ofK seen x.h) = 0 := of_decide_eq_true hq
      repeat refine At.seq ?_
      refine At.region tab_ok ?_
      conv => whnf
      refine ⟨by omega, ?_⟩
      conv => whnf
      refine ⟨by omega, ?_⟩
      conv => whnf
      refine ⟨encS x.s, fun w' hw => h.load (n := 3) hw.fr hx rfl, ?_⟩
      conv => whnf
      intro v2
      conv => whnf
      refine ⟨rfl, ?_⟩
      conv => whnf
      refine ⟨⟨rfl, by simp; omega⟩, ?_⟩
      conv => whnf
      intro v3
      conv => whnf
      repeat refine At.seq ?_
      refine At.region tab_ok ?_
      conv => whnf
      refine ⟨⟨by omega, by omega⟩, ?_⟩
      conv => whnf
      refine At.nextH fun w' hw => ⟨(k + 1, v3), by simp only; omega, by simp only; omega, Le.of rfl rfl ⟨rfl, rfl, rfl, rfl, rfl, rfl, trivial⟩, hw.keep [0] (by simp only; rw [hs1, if_pos hm, List.map_append]; rfl) rfl rfl, ⟨⟨_, _, _, rfl⟩, trivial⟩, ⟨(nopS _).okH, trivial⟩⟩
    · have hm : ¬ mayU x key day (ofK seen x.h) = 0 := of_decide_eq_false hq
      refine At.skip ?_
      repeat refine At.seq ?_
      refine At.region tab_ok ?_
      conv => whnf
      refine ⟨⟨by omega, by omega⟩, ?_⟩
      conv => whnf
      refine At.nextH fun w' hw => ⟨(k + 1, vo), by simp only; omega, by simp only; omega, Le.of rfl rfl ⟨rfl, rfl, rfl, rfl, rfl, rfl, trivial⟩, hw.keep [0] (by simp only; rw [hs1, if_neg hm, List.append_nil]; rfl) rfl rfl, ⟨⟨_, _, _, rfl⟩, trivial⟩, ⟨(nopS _).okH, trivial⟩⟩
  have hge : k = L.length := by have := of_decide_eq_false hc; omega
  subst hge
  have hl1 := hln L.length
  rw [List.take_length] at hl1 ⊢
  repeat refine At.seq ?_
  refine At.region tab_ok ?_
  conv => whnf
  refine ansR_call b74 (rd1 (nopS _)) (fun w' hw => normR_c _ [] vo w' (slS _ (hw.row (id := 0) rfl) (by omega)) (by omega)) ?_
  intro vr
  conv => whnf
  repeat refine At.seq ?_
  refine At.ret (At.doneB tab_ok hB _ rfl fun w' hw => ansR_row (id := 1) hw rfl rfl rfl)
end Go.Proofs.YtjilbkioieicbaaGreat

/- Walk of the reference 28's cut. -/
namespace Go.Proofs.YtjilbkioieicbaaGreat
open Go.Vc Rt
set_option linter.unusedVariables false
set_option linter.unusedSimpArgs false
def cutE (m e : Int) (p : List Lot × Lot) : List Lot × Lot := if p.2.s.m = m ∧ p.2.s.f < e ∧ e < p.2.s.t then (p.1 ++ [partL p.2 p.2.s.f e], partL p.2 e p.2.s.t) else p
def endS (s : Span) (n : Nat) : Int := if n = 0 then s.f else s.t
def cutN (s : Span) (l : Lot) : Nat → List Lot × Lot
  | 0 => ([], l)
  | n + 1 => cutE s.m (endS s n) (cutN s l n)
def cut1 (s : Span) (l : Lot) : List Lot := (cutN s l 2).1 ++ [(cutN s l 2).2]
theorem cut1_eq {s : Span} {l : Lot} (hs : s.f < s.t) (hl : l.s.f < l.s.t) : cut1 s l = cutOne s l := by
  have e0 : endS s 0 = s.f := rfl
  have e1 : endS s 1 = s.t := rfl
  have pp : ∀ a b c d, partL (partL l a b) c d = partL l c d := fun _ _ _ _ => rfl
  have p0 : partL l l.s.f l.s.t = l := rfl
  have pm : ∀ a b, (partL l a b).s.m = l.s.m ∧ (partL l a b).s.f = a ∧ (partL l a b).s.t = b := fun _ _ => ⟨rfl, rfl, rfl⟩
  unfold cut1 cutOne
  simp only [cutN, e0, e1]
  by_cases hm : l.s.m = s.m
  · by_cases h1 : l.s.f < s.f ∧ s.f < l.s.t
    · have c1 : cutE s.m s.f ([], l) = ([partL l l.s.f s.f], partL l s.f l.s.t) := by unfold cutE; rw [if_pos ⟨hm, h1⟩]; rfl
      rw [c1, if_neg (by omega), if_pos h1.1]
      by_cases h2 : s.t < l.s.t
      · have c2 : cutE s.m s.t ([partL l l.s.f s.f], partL l s.f l.s.t) = ([partL l l.s.f s.f, partL l s.f s.t], partL l s.t l.s.t) := by unfold cutE; rw [if_pos ⟨hm, hs, h2⟩]; rfl
        rw [c2, if_pos h2, show max l.s.f s.f = s.f by omega, show min l.s.t s.t = s.t by omega]; rfl
      · have c2 : cutE s.m s.t ([partL l l.s.f s.f], partL l s.f l.s.t) = ([partL l l.s.f s.f], partL l s.f l.s.t) := by unfold cutE; rw [if_neg (fun h => h2 h.2.2)]
        rw [c2, if_neg h2, show max l.s.f s.f = s.f by omega, show min l.s.t s.t = l.s.t by omega]; rfl
    · have c1 : cutE s.m s.f ([], l) = ([], l) := by unfold cutE; rw [if_neg (fun h => h1 h.2)]
      rw [c1]
      by_cases h2 : l.s.f < s.t ∧ s.t < l.s.t
      · have c2 : cutE s.m s.t ([], l) = ([partL l l.s.f s.t], partL l s.t l.s.t) := by unfold cutE; rw [if_pos ⟨hm, h2⟩]; rfl
        rw [c2, if_neg (by omega), if_neg (by omega), if_pos h2.2, show max l.s.f s.f = l.s.f by omega, show min l.s.t s.t = s.t by omega]; rfl
      · have c2 : cutE s.m s.t ([], l) = ([], l) := by unfold cutE; rw [if_neg (fun h => h2 h.2)]
        rw [c2]
        by_cases h3 : l.s.t ≤ s.f ∨ s.t ≤ l.s.f
        · rw [if_pos (by omega)]; rfl
        · rw [if_neg (by omega), if_neg (by omega), if_neg (by omega), show max l.s.f s.f = l.s.f by omega, show min l.s.t s.t = l.s.t by omega]; rfl
  · have c : ∀ e, cutE s.m e ([], l) = ([], l) := fun e => by unfold cutE; rw [if_neg (fun h => hm h.1)]
    rw [c, c, if_pos (.inl hm)]; rfl
theorem cutN_len (s : Span) (l : Lot) : ∀ n, (cutN s l n).1.length ≤ n
  | 0 => by simp [cutN]
  | n + 1 => by
    have := cutN_len s l n
    simp only [cutN, cutE]
    split
    · simp; omega
    · omega
theorem cut1_snoc {s : Span} {L : List Lot} {k : Nat} {x : Lot} (hx : L[k]? = some x) : (L.take (k + 1)).flatMap (cut1 s) = (L.take k).flatMap (cut1 s) ++ cut1 s x := by
  rw [List.take_add_one, hx, List.flatMap_append]; simp
theorem cut1_all {s : Span} {L : List Lot} (hs : s.f < s.t) (h : Ord L) : L.flatMap (cut1 s) = cutAt s L := by
  rw [← cutR_eq hs h]
  unfold cutR
  have key : ∀ {A : List Lot}, (∀ l ∈ A, l.s.f < l.s.t) → A.flatMap (cut1 s) = A.flatMap (cutOne s) := by
    intro A hA
    induction A with
    | nil => rfl
    | cons a A ih => rw [List.flatMap_cons, List.flatMap_cons, cut1_eq hs (hA a (by simp)), ih fun l hl => hA l (by simp [hl])]
  exact key fun l hl => by have := h.ok l hl; unfold lotOk at this; omega
theorem cut1_len (s : Span) (L : List Lot) : (L.flatMap (cut1 s)).length ≤ 3 * L.length := by
  induction L with
  | nil => simp
  | cons a L ih =>
    have := cutN_len s a 2
    rw [List.flatMap_cons, List.length_append]
    unfold cut1 at ih ⊢
    simp only [List.length_append, List.length_cons, List.length_nil] at *
    omega
set_option maxHeartbeats 4000000 in
theorem cut28_c (L : List Lot) (ss : List Span) (v u : Value) (w : World) (h : SlOf loT [] w v L) (hu : SlOf spT [] w u ss) (hO : Ord L) (hv : ∀ s ∈ ss, s.f < s.t) (hN : L.length ≤ 100000) (hS : ss.length ≤ 8) (h0 : ss ≠ []) : AnsR Tryz.prog 27 [v, u] [.row 27 7 ((cutAll ss L).map encL)] w := by
  have lu := hu.len
  refine calls_plainB [.x v, .x u] Tryz.func27 rfl rfl (Nat.le_of_ble_eq_true rfl) rfl fun B hB => ?_
  repeat refine At.seq ?_
  refine At.region tab_ok ?_
  conv => whnf
  repeat refine At.seq ?_
  refine At.region tab_ok ?_
  conv => whnf
  repeat refine At.seq ?_
  refine At.block ?_
  refine At.loopH (fun p : Nat × World × Value => { N := Tryz.f27.ntmps, sl := [(0, some (.x p.2.2)), (1, some (.x u)), (5, some (.i p.1))], gl := [], hp := [], S := [], ws := p.2.1 }) (fun p : Nat × World × Value => p.1 ≤ ss.length ∧ SlOf loT [] p.2.1 p.2.2 (cutAll (ss.take p.1) L) ∧ Ext w p.2.1 ∧ (p.1 = 0 ∨ ((LO.row p.2.2 27 7 ((cutAll (ss.take p.1) L).map encL)).holds p.2.1 ∧ ∀ b ∈ blkOf p.2.2, w.heap.size ≤ b))) (fun p : Nat × World × Value => ss.length - p.1)
    (fun w' hw => ⟨(0, w', v), ⟨Nat.zero_le _, h.ext hw.fr, hw.fr, .inl rfl⟩, Le.of rfl rfl ⟨rfl, rfl, rfl, trivial⟩, Holds.cast (fun o ho => by cases ho) List.nodup_nil (fun c hc => by cases hc) rfl, trivial, trivial⟩) ?_
  rintro ⟨k, ws, q⟩ ⟨hk, hq1, hx0, hq2⟩
  simp only at hk hq1 hx0 hq2 ⊢
  have huw := hu.ext hx0
  repeat refine At.seq ?_
  refine At.region tab_ok ?_
  conv => whnf
  refine ⟨hu.sl, ?_⟩
  conv => whnf
  rw [lu]
  conv => whnf
  repeat refine At.seq ?_
  refine At.cond rfl (fun hc => At.skip ?_) (fun hc => At.exit ?_)
  · have hlts : k < ss.length := by have := of_decide_eq_true hc; omega
    obtain ⟨s, hs⟩ : ∃ x, ss[k]? = some x := ⟨_, List.getElem?_eq_getElem hlts⟩
    have hsv := hv s (List.mem_of_getElem? hs)
    have hsn := cutAll_snoc (L := L) hs
    obtain ⟨c1, _, c3, _, _⟩ := cutAll_spec (ss.take k) hO
    obtain ⟨A, hA⟩ : ∃ A, cutAll (ss.take k) L = A := ⟨_, rfl⟩
    rw [hA] at c1 c3 hq1 hsn
    rw [← cut1_all hsv c1] at hsn
    have lq := hq1.len
    rw [List.length_take] at c3
    repeat refine At.seq ?_
    refine At.block ?_
    repeat refine At.seq ?_
    refine At.region tab_ok ?_
    conv => whnf
    repeat refine At.seq ?_
    refine At.region tab_ok ?_
    conv => whnf
    repeat refine At.seq ?_
    refine At.block ?_
    refine At.loopH (fun p : Nat × Value => { N := Tryz.f27.ntmps, sl := [(0, some (.x q)), (1, some (.x u)), (5, some (.i k)), (6, some (.s (.c (.o 0 p.2)))), (7, some (.i p.1))], gl := [], hp := [(0, .row p.2 27 7 (((A.take p.1).flatMap (cut1 s)).map encL))], S := [], ws := ws }) (fun p : Nat × Value => p.1 ≤ A.length) (fun p : Nat × Value => A.length - p.1)
      (fun w' hw => ⟨(0, .slice none 0 0), Nat.zero_le _, Le.of rfl rfl ⟨rfl, rfl, rfl, rfl, rfl, trivial⟩, hw.nil rfl rfl rfl, ⟨⟨_, _, _, rfl⟩, trivial⟩, ⟨(nopL _).okH, trivial⟩⟩) ?_
    rintro ⟨i, vo⟩ hi
    simp only at hi ⊢
    repeat refine At.seq ?_
    refine At.region tab_ok ?_
    conv => whnf
    refine ⟨hq1.sl, ?_⟩
    conv => whnf
    rw [lq]
    conv => whnf
    repeat refine At.seq ?_
    refine At.cond rfl (fun hc => At.skip ?_) (fun hc => At.exit ?_)
    · have hlt : i < A.length := by have := of_decide_eq_true hc; omega
      obtain ⟨x, hx⟩ : ∃ x, A[i]? = some x := ⟨_, List.getElem?_eq_getElem hlt⟩
      have hin := cut1_snoc (s := s) hx
      have hol := cut1_len s (A.take i)
      rw [List.length_take] at hol
      generalize (A.take i).flatMap (cut1 s) = out at *
      repeat refine At.seq ?_
      refine At.block ?_
      repeat refine At.seq ?_
      refine At.region tab_ok ?_
      conv => whnf
      refine ⟨by omega, ?_⟩
      conv => whnf
      refine ⟨by omega, ?_⟩
      conv => whnf
      refine ⟨encL x, fun w' hw => hq1.load (n := 7) hw.fr hx rfl, ?_⟩
      conv => whnf
      intro b8
      conv => whnf
      repeat refine At.seq ?_
      refine At.planG tab_ok mixed [(1, .box b8 27 (encL x)), (0, .row vo 27 7 (out.map encL))] (.take 0 (.take 1 (.take 2 (.take 3 (.take 4 (.take 5 (.take 6 (.take 7 (.take 8 (.take 9 (.br 10 (.take 11 (.done)) (.nob)))))))))))) (by kernel_rfl) (by kernel_rfl) ⟨rfl, rfl, trivial⟩ ?_
      conv => whnf
      refine ⟨by omega, ?_⟩
      conv => whnf
      refine ⟨by omega, ?_⟩
      conv => whnf
      refine ⟨[.i s.f], fun w' hw => huw.load (n := 1) hw hs rfl, ?_⟩
      conv => whnf
      refine ⟨by omega, ?_⟩
      conv => whnf
      refine ⟨by omega, ?_⟩
      conv => whnf
      refine ⟨[.i s.t], fun w' hw => huw.load (n := 1) hw hs rfl, ?_⟩
      conv => whnf
      refine ⟨?_, trivial⟩
      conv => whnf
      intro v9
      conv => whnf
      refine ⟨⟨⟨rfl, rfl, trivial⟩, fun w' hw => hw.fr⟩, ?_⟩
      conv => whnf
      skip
      repeat refine At.seq ?_
      refine At.region tab_ok ?_
      conv => whnf
      repeat refine At.seq ?_
      refine At.block ?_
      refine At.loopH (fun p : Nat × List Lot × Lot × Value => { N := Tryz.f27.ntmps, sl := [(0, some (.x q)), (1, some (.x u)), (5, some (.i k)), (6, some (.s (.c (.o 0 p.2.2.2)))), (7, some (.i i)), (8, some (.s (.c (.p 1 b8 0)))), (9, some (.s (.c (.o 2 v9)))), (10, some (.i p.1))], gl := [], hp := [(2, .row v9 3 1 ([s.f, s.t].map encI)), (1, .box b8 27 (encL p.2.2.1)), (0, .row p.2.2.2 27 7 ((out ++ p.2.1).map encL))], S := [], ws := ws }) (fun p : Nat × List Lot × Lot × Value => p.1 ≤ 2 ∧ cutN s x p.1 = (p.2.1, p.2.2.1)) (fun p : Nat × List Lot × Lot × Value => 2 - p.1)
        (fun w' hw => ⟨(0, [], x, vo), ⟨Nat.zero_le _, rfl⟩, Le.of rfl rfl ⟨rfl, rfl, rfl, rfl, rfl, rfl, rfl, rfl, trivial⟩, hw.keep [2, 1, 0] (by simp only [List.append_nil]; rfl) rfl rfl, ⟨⟨_, _, _, rfl⟩, ⟨_, _, rfl⟩, ⟨_, _, _, rfl⟩, trivial⟩, ⟨(nopI _).okH, (nopL _).okH, trivial⟩⟩) ?_
      rintro ⟨n, o1, l, vo⟩ ⟨hn, hcn⟩
      simp only at hn hcn ⊢
      have hol1 := cutN_len s x n
      rw [hcn] at hol1
      simp only at hol1
      repeat refine At.seq ?_
      refine At.region tab_ok ?_
      conv => whnf
      repeat refine At.seq ?_
      refine At.cond rfl (fun hc => At.skip ?_) (fun hc => At.exit ?_)
      · have hn2 : n < 2 := by have := of_decide_eq_true hc; omega
        have hend : ([s.f, s.t].map encI)[n]? = some [.i (endS s n)] := by
          have : n = 0 ∨ n = 1 := by omega
          rcases this with rfl | rfl <;> rfl
        have hnext : cutN s x (n + 1) = cutE s.m (endS s n) (o1, l) := by simp only [cutN]; rw [hcn]
        obtain ⟨e, he⟩ : ∃ e, endS s n = e := ⟨_, rfl⟩
        rw [he] at hend hnext
        have h2l : ([s.f, s.t].map encI).length = 2 := rfl
        repeat refine At.seq ?_
        refine At.block ?_
        repeat refine At.seq ?_
        refine At.join (fun z : Unit => { N := Tryz.f27.ntmps, sl := [(0, some (.x q)), (1, some (.x u)), (5, some (.i k)), (6, some (.s (.c (.o 0 vo)))), (7, some (.i i)), (8, some (.s (.c (.p 1 b8 0)))), (9, some (.s (.c (.o 2 v9)))), (10, some (.i n)), (71, some (.b ((decide (l.s.m = s.m ∧ l.s.f < e ∧ e < l.s.t)))))], gl := [], hp := [(2, .row v9 3 1 ([s.f, s.t].map encI)), (1, .box b8 27 (encL l)), (0, .row vo 27 7 ((out ++ o1).map encL))], S := [], ws := ws }) (fun z : Unit => True) ?_ ?_
        · repeat refine At.seq ?_
          refine At.planG tab_ok mixed [(2, .row v9 3 1 ([s.f, s.t].map encI)), (1, .box b8 27 (encL l)), (0, .row vo 27 7 ((out ++ o1).map encL))] (.take 0 (.take 1 (.take 2 (.take 3 (.take 4 (.take 5 (.take 6 (.take 7 (.take 8 (.take 9 (.take 10 (.take 11 (.take 12 (.take 13 (.take 14 (.take 15 (.take 16 (.take 17 (.take 18 (.take 19 (.take 20 (.take 21 (.take 22 (.take 23 (.take 24 (.take 25 (.take 26 (.take 27 (.take 28 (.done)))))))))))))))))))))))))))))) (by kernel_rfl) (by kernel_rfl) ⟨rfl, rfl, rfl, trivial⟩ ?_
          conv => whnf
          refine ⟨by omega, ?_⟩
          conv => whnf
          refine ⟨by omega, ?_⟩
          conv => whnf
          refine ⟨[.i s.m], fun w' hw => huw.load (n := 1) hw hs rfl, ?_⟩
          conv => whnf
          by_cases hm : l.s.m = s.m
          · rw [decide_eq_true hm]
            conv => whnf
            refine ⟨rfl, ?_⟩
            conv => whnf
            refine ⟨by omega, ?_⟩
            conv => whnf
            refine ⟨by omega, ?_⟩
            conv => whnf
            refine ⟨[.i e], ⟨rfl, rfl, by omega, by rw [Int.toNat_natCast]; exact hend⟩, ?_⟩
            conv => whnf
            by_cases h1 : l.s.f < e
            · rw [decide_eq_true h1]
              conv => whnf
              refine ⟨rfl, ?_⟩
              conv => whnf
              refine ⟨by omega, ?_⟩
              conv => whnf
              refine ⟨by omega, ?_⟩
              conv => whnf
              refine ⟨[.i e], ⟨rfl, rfl, by omega, by rw [Int.toNat_natCast]; exact hend⟩, ?_⟩
              conv => whnf
              refine At.meet fun w' hw => ⟨(), trivial, Le.of rfl rfl ⟨rfl, rfl, rfl, rfl, rfl, rfl, rfl, rfl, congrArg Value.bool (by simp [hm, h1]), trivial⟩, hw.keep [2, 1, 0] rfl rfl rfl, ⟨⟨_, _, _, rfl⟩, ⟨_, _, rfl⟩, ⟨_, _, _, rfl⟩, trivial⟩, ⟨(nopI _).okH, (nopL _).okH, trivial⟩⟩
            · rw [decide_eq_false h1]
              conv => whnf
              refine At.meet fun w' hw => ⟨(), trivial, Le.of rfl rfl ⟨rfl, rfl, rfl, rfl, rfl, rfl, rfl, rfl, congrArg Value.bool (by simp [hm, h1]), trivial⟩, hw.keep [2, 1, 0] rfl rfl rfl, ⟨⟨_, _, _, rfl⟩, ⟨_, _, rfl⟩, ⟨_, _, _, rfl⟩, trivial⟩, ⟨(nopI _).okH, (nopL _).okH, trivial⟩⟩
          · rw [decide_eq_false hm]
            conv => whnf
            refine At.meet fun w' hw => ⟨(), trivial, Le.of rfl rfl ⟨rfl, rfl, rfl, rfl, rfl, rfl, rfl, rfl, congrArg Value.bool (by simp [hm]), trivial⟩, hw.keep [2, 1, 0] rfl rfl rfl, ⟨⟨_, _, _, rfl⟩, ⟨_, _, rfl⟩, ⟨_, _, _, rfl⟩, trivial⟩, ⟨(nopI _).okH, (nopL _).okH, trivial⟩⟩
        rintro ⟨⟩ -
        repeat refine At.seq ?_
        refine At.cond rfl (fun hq => ?_) (fun hq => ?_)
        · have hc1 : l.s.m = s.m ∧ l.s.f < e ∧ e < l.s.t := of_decide_eq_true hq
          rw [cutE, if_pos hc1] at hnext
          repeat refine At.seq ?_
          refine At.region tab_ok ?_
          conv => whnf
          intro b11
          conv => whnf
          repeat refine At.seq ?_
          refine At.region tab_ok ?_
          conv => whnf
          refine ⟨rfl, ?_⟩
          conv => whnf
          refine ⟨by omega, ?_⟩
          conv => whnf
          refine ⟨by omega, ?_⟩
          conv => whnf
          refine ⟨[.i e], ⟨rfl, rfl, by omega, by rw [Int.toNat_natCast]; exact hend⟩, ?_⟩
          conv => whnf
          repeat refine At.seq ?_
          refine At.region tab_ok ?_
          conv => whnf
          intro v2
          conv => whnf
          refine ⟨rfl, ?_⟩
          conv => whnf
          refine ⟨⟨rfl, by simp; omega⟩, ?_⟩
          conv => whnf
          intro v3
          conv => whnf
          repeat refine At.seq ?_
          refine At.region tab_ok ?_
          conv => whnf
          refine ⟨rfl, ?_⟩
          conv => whnf
          refine ⟨by omega, ?_⟩
          conv => whnf
          refine ⟨by omega, ?_⟩
          conv => whnf
          refine ⟨[.i e], ⟨rfl, rfl, by omega, by rw [Int.toNat_natCast]; exact hend⟩, ?_⟩
          conv => whnf
          repeat refine At.seq ?_
          refine At.region tab_ok ?_
          conv => whnf
          refine ⟨⟨by omega, by omega⟩, ?_⟩
          conv => whnf
          refine At.nextH fun w' hw => ⟨(n + 1, o1 ++ [partL l l.s.f e], partL l e l.s.t, v3), ⟨by simp only; omega, hnext⟩, by simp only; omega, Le.of rfl rfl ⟨rfl, rfl, rfl, rfl, rfl, rfl, rfl, rfl, trivial⟩, hw.keep [2, 1, 0] (by simp only; rw [← List.append_assoc, List.map_append (l₂ := [partL l l.s.f e])]; rfl) rfl rfl, ⟨⟨_, _, _, rfl⟩, ⟨_, _, rfl⟩, ⟨_, _, _, rfl⟩, trivial⟩, ⟨(nopI _).okH, (nopL _).okH, trivial⟩⟩
        · have hc1 : ¬ (l.s.m = s.m ∧ l.s.f < e ∧ e < l.s.t) := of_decide_eq_false hq
          rw [cutE, if_neg hc1] at hnext
          refine At.skip ?_
          repeat refine At.seq ?_
          refine At.region tab_ok ?_
          conv => whnf
          refine ⟨⟨by omega, by omega⟩, ?_⟩
          conv => whnf
          refine At.nextH fun w' hw => ⟨(n + 1, o1, l, vo), ⟨by simp only; omega, hnext⟩, by simp only; omega, Le.of rfl rfl ⟨rfl, rfl, rfl, rfl, rfl, rfl, rfl, rfl, trivial⟩, hw.keep [2, 1, 0] rfl rfl rfl, ⟨⟨_, _, _, rfl⟩, ⟨_, _, rfl⟩, ⟨_, _, _, rfl⟩, trivial⟩, ⟨(nopI _).okH, (nopL _).okH, trivial⟩⟩
      have hne : n = 2 := by have := of_decide_eq_false hc; omega
      subst hne
      have hcx : cut1 s x = o1 ++ [l] := by unfold cut1; rw [hcn]
      rw [hcx] at hin
      repeat refine At.seq ?_
      refine At.region tab_ok ?_
      conv => whnf
      intro v2
      conv => whnf
      refine ⟨rfl, ?_⟩
      conv => whnf
      refine ⟨⟨rfl, by simp; omega⟩, ?_⟩
      conv => whnf
      intro v3
      conv => whnf
      repeat refine At.seq ?_
      refine At.region tab_ok ?_
      conv => whnf
      refine ⟨⟨by omega, by omega⟩, ?_⟩
      conv => whnf
      refine At.nextH fun w' hw => ⟨(i + 1, v3), by simp only; omega, by simp only; omega, Le.of rfl rfl ⟨rfl, rfl, rfl, rfl, rfl, trivial⟩, hw.keep [0] (by simp only; rw [hin, ← List.append_assoc, List.map_append (l₂ := [l])]; rfl) rfl rfl, ⟨⟨_, _, _, rfl⟩, trivial⟩, ⟨(nopL _).okH, trivial⟩⟩
    have hie : i = A.length := by have := of_decide_eq_false hc; omega
    subst hie
    rw [List.take_length, ← hsn]
    obtain ⟨_, _, c4, _, _⟩ := cutAll_spec (ss.take (k + 1)) hO
    rw [List.length_take] at c4
    repeat refine At.seq ?_
    refine At.region tab_ok ?_
    conv => whnf
    repeat refine At.seq ?_
    refine At.region tab_ok ?_
    conv => whnf
    refine ⟨⟨by omega, by omega⟩, ?_⟩
    conv => whnf
    refine At.nextH fun w' hw => ⟨(k + 1, w', vo), ⟨by simp only; omega, slL _ (hw.row (id := 0) rfl) (Nat.le_trans c4 (by omega)), hx0.trans hw.fr, .inr ⟨hw.row (id := 0) rfl, fun b hb => (hw.fresh (id := 0) rfl b hb).elim (fun h => (by cases h)) (fun h => Nat.le_trans hx0.size h)⟩⟩, by simp only; omega, Le.of rfl rfl ⟨rfl, rfl, rfl, trivial⟩, Holds.cast (fun o ho => by cases ho) List.nodup_nil (fun c hc => by cases hc) rfl, trivial, trivial⟩
  have hke : k = ss.length := by have := of_decide_eq_false hc; omega
  subst hke
  rw [List.take_length] at hq1 hq2
  obtain ⟨r1, r2⟩ : (LO.row q 27 7 ((cutAll ss L).map encL)).holds ws ∧ ∀ b ∈ blkOf q, w.heap.size ≤ b := by
    rcases hq2 with h | h
    · exact (h0 (List.eq_nil_of_length_eq_zero h)).elim
    · exact h
  repeat refine At.seq ?_
  refine At.region tab_ok ?_
  conv => whnf
  repeat refine At.seq ?_
  refine At.ret (At.doneB tab_ok hB _ rfl fun w' hw => ?_)
  exact ⟨[q], rfl, ⟨LO.holds_ext hw.fr r1, r2, fun u hu => (by cases hu), rfl⟩, hx0.trans hw.fr⟩
end Go.Proofs.YtjilbkioieicbaaGreat

/- Walk of the reference 28's Do. -/
namespace Go.Proofs.YtjilbkioieicbaaGreat
open Go.Vc Rt
set_option linter.unusedVariables false
set_option linter.unusedSimpArgs false
/-- The end of a deed: the slice that was given, or one of its own. -/
def LeEnd (L : List Lot) (d : Deed) (seen : List Int) (v : Value) (w : World) (e : Ending) (w' : World) : Prop :=
  ∃ r L' n, e = .returned (RV.tup [.c (.x r), .c (.i n)]).den ∧ (L', n) = refL d seen L ∧ Ext w w' ∧ ((r = v ∧ L' = L) ∨ ((LO.row r 27 7 (L'.map encL)).holds w' ∧ ∀ b ∈ blkOf r, w.heap.size ≤ b))
theorem box_ext {S : List Nat} {w w' : World} {b : Nat} {T : TypeId} {cells : List CV} (hf : Fr S w w') (hS : S = [b]) (h : (LO.box b T cells).holds w) (h' : (LO.box b T cells).holds w') : Ext w w' :=
  hf.ext fun c hc => by
    rw [hS] at hc
    rw [List.mem_singleton.1 hc, box_get h, box_get h']
def lateP (d : Deed) (l : Lot) : Bool := inD d l && lateQ d (stL l)
theorem any_snocP {p : Lot → Bool} {A : List Lot} {k : Nat} {x : Lot} (hx : A[k]? = some x) : (A.take (k + 1)).any p = ((A.take k).any p || p x) := any_snoc hx
set_option maxHeartbeats 4000000 in
theorem do28_c (L : List Lot) (d : Deed) (seen : List Int) (v u z : Value) (w : World) (h : SlOf loT [] w v L) (hu : SlOf spT [] w u d.spans) (hz : SlOf intT [] w z seen) (hg : Good L) (hN : L.length ≤ 50000) (hS : d.spans.length ≤ 8) :
    Calls Tryz.prog 14 [v, vD d u, z].toArray w (LeEnd L d seen v w) := by
  have hl := h.len
  have hul := hu.len
  refine calls_plainB [.x v, .s (.agg (encD d u)), .x z] Tryz.func14 rfl rfl (Nat.le_of_ble_eq_true rfl) rfl fun B hB => ?_
  repeat refine At.seq ?_
  refine At.region tab_ok ?_
  conv => whnf
  refine ⟨hu.sl.one, ?_⟩
  conv => whnf
  intro b4
  conv => whnf
  repeat refine At.seq ?_
  refine At.region tab_ok ?_
  conv => whnf
  repeat refine At.seq ?_
  refine At.region tab_ok ?_
  conv => whnf
  repeat refine At.seq ?_
  refine At.join (fun _u : Unit => { N := Tryz.f14.ntmps, sl := [(0, some (.x v)), (2, some (.x z)), (4, some (.s (.c (.p 0 b4 0)))), (8, some (.x v)), (9, some (.b false)), (21, some (.b ((!decide (d.kind = 0) && right d))))], gl := [], hp := [(0, .box b4 44 (encD d u))], S := [], ws := w }) (fun _u : Unit => True) ?_ ?_
  · repeat refine At.seq ?_
    refine At.regionG tab_ok ?_
    conv => whnf
    by_cases hk : d.kind = 0
    · rw [decide_eq_true hk]
      conv => whnf
      refine At.meet fun w' hw => ⟨(), trivial, Le.of rfl rfl ⟨rfl, rfl, rfl, rfl, rfl, congrArg Value.bool (by simp [hk]), trivial⟩, hw.keep [0] rfl rfl rfl, ⟨⟨_, _, rfl⟩, trivial⟩, trivial⟩
    rw [decide_eq_false hk]
    conv => whnf
    refine ans_call b102 rfl (fun w' hw => rightR_c d [] u w' (hu.fr hw.fr)) ?_
    conv => whnf
    refine At.meet fun w' hw => ⟨(), trivial, Le.of rfl rfl ⟨rfl, rfl, rfl, rfl, rfl, congrArg Value.bool (by simp [hk]), trivial⟩, hw.keep [0] rfl rfl rfl, ⟨⟨_, _, rfl⟩, trivial⟩, trivial⟩
  rintro ⟨⟩ -
  repeat refine At.seq ?_
  refine At.join (fun p : World × Value × Bool => { N := Tryz.f14.ntmps, sl := [(0, some (.x v)), (2, some (.x z)), (4, some (.s (.c (.p 0 b4 0)))), (8, some (.x p.2.1)), (9, some (.b p.2.2))], gl := [], hp := [(0, .box b4 44 (encD d u))], S := [b4], ws := p.1 }) (fun p : World × Value × Bool => SlOf loT [] p.1 p.2.1 (freeR d seen L) ∧ Ext w p.1 ∧ p.2.2 = (if d.kind ≠ 0 ∧ right d = true then lateR d L else false) ∧ (LO.box b4 44 (encD d u)).holds p.1 ∧ w.heap.size ≤ b4) ?_ ?_
  · repeat refine At.seq ?_
    refine At.cond rfl (fun hq => ?_) (fun hq => ?_)
    · have hkr : d.kind ≠ 0 ∧ right d = true := by simpa using hq
      obtain ⟨hk, hr⟩ := hkr
      have e1 : freeR d seen L = (cutAll d.spans L).map (bkL d seen) := by unfold freeR; rw [if_pos ⟨hk, hr⟩]
      have hne : d.spans ≠ [] := fun e => by have := right_ne hr; rw [e] at this; simp at this
      have hok : ∀ s ∈ d.spans, s.f < s.t := fun s hs => (right_spans hr s hs).2.2.2.1
      obtain ⟨c1, _, c3, _, _⟩ := cutAll_spec d.spans hg.ord
      obtain ⟨C, hC⟩ : ∃ C, cutAll d.spans L = C := ⟨_, rfl⟩
      rw [hC] at c1 c3
      repeat refine At.seq ?_
      refine At.region tab_ok ?_
      conv => whnf
      intro v0
      conv => whnf
      refine ansR_call bz27 (rd1 (nopL _)) (fun w' hw => cut28_c L d.spans v u w' (h.fr hw.fr) (hu.fr hw.fr) hg.ord hok (by omega) hS hne) ?_
      intro v1
      conv => whnf
      rw [hC]
      refine ⟨rfl, obl_map encL_ints ?_⟩
      conv => whnf
      refine ⟨⟨rfl, by simp; omega⟩, ?_⟩
      conv => whnf
      intro v3
      conv => whnf
      repeat refine At.seq ?_
      refine At.region tab_ok ?_
      conv => whnf
      repeat refine At.seq ?_
      refine At.block ?_
      refine At.loopH (fun p : Nat × Bool => { N := Tryz.f14.ntmps, sl := [(0, some (.x v)), (2, some (.x z)), (4, some (.s (.c (.p 0 b4 0)))), (8, some (.s (.c (.o 1 v3)))), (9, some (.b p.2)), (10, some (.i p.1))], gl := [], hp := [(1, .row v3 27 7 (((C.take p.1).map (bkL d seen) ++ C.drop p.1).map encL)), (0, .box b4 44 (encD d u))], S := [], ws := w }) (fun p : Nat × Bool => p.1 ≤ C.length ∧ p.2 = (C.take p.1).any (lateP d)) (fun p : Nat × Bool => C.length - p.1)
        (fun w' hw => ⟨(0, false), ⟨Nat.zero_le _, rfl⟩, Le.of rfl rfl ⟨rfl, rfl, rfl, rfl, rfl, rfl, trivial⟩, hw.keep [1, 0] (by simp only [List.take_zero, List.drop_zero, List.map_nil, List.nil_append]; rfl) rfl rfl, ⟨⟨_, _, rfl⟩, ⟨_, _, _, rfl⟩, trivial⟩, ⟨(nopL _).okH, trivial⟩⟩) ?_
      rintro ⟨k, lt⟩ ⟨hkC, hltk⟩
      simp only at hkC hltk ⊢
      have hlen : (((C.take k).map (bkL d seen) ++ C.drop k).map encL).length = C.length := by simp; omega
      repeat refine At.seq ?_
      refine At.region tab_ok ?_
      conv => whnf
      refine ⟨rfl, ?_⟩
      conv => whnf
      rw [hlen]
      conv => whnf
      repeat refine At.seq ?_
      refine At.cond rfl (fun hc => At.skip ?_) (fun hc => At.exit ?_)
      · have hlt : k < C.length := by have := of_decide_eq_true hc; omega
        obtain ⟨x, hx⟩ : ∃ x, C[k]? = some x := ⟨_, List.getElem?_eq_getElem hlt⟩
        have hug := upd_get (f := bkL d seen) hx
        have hus := upd_set (f := bkL d seen) hx
        have hsn := any_snocP (p := lateP d) hx
        rw [← hltk] at hsn
        generalize ((C.take k).map (bkL d seen) ++ C.drop k) = Q at *
        rw [List.length_map] at hlen
        have hqm : (Q.map encL).length = C.length := by rw [List.length_map]; exact hlen
        have hgq : (Q.map encL)[k]? = some (encL x) := by rw [List.getElem?_map, hug]; rfl
        repeat refine At.seq ?_
        refine At.block ?_
        repeat refine At.seq ?_
        refine At.region tab_ok ?_
        conv => whnf
        refine ⟨rfl, ?_⟩
        conv => whnf
        refine ⟨by omega, ?_⟩
        conv => whnf
        refine ⟨by omega, ?_⟩
        conv => whnf
        refine ⟨encL x, ⟨rfl, rfl, by omega, by rw [Int.toNat_natCast]; exact hgq⟩, ?_⟩
        conv => whnf
        intro b11
        conv => whnf
        repeat refine At.seq ?_
        refine At.join (fun _u : Unit => { N := Tryz.f14.ntmps, sl := [(0, some (.x v)), (2, some (.x z)), (4, some (.s (.c (.p 0 b4 0)))), (8, some (.s (.c (.o 1 v3)))), (9, some (.b lt)), (10, some (.i k)), (11, some (.s (.c (.p 2 b11 0)))), (54, some (.b ((Bool.or (!inD d x) (decide (x.o = x.h))))))], gl := [], hp := [(2, .box b11 27 (encL x)), (1, .row v3 27 7 (Q.map encL)), (0, .box b4 44 (encD d u))], S := [], ws := w }) (fun _u : Unit => True) ?_ ?_
        · repeat refine At.seq ?_
          refine At.regionG tab_ok ?_
          conv => whnf
          refine ans_call b135 rfl (fun w' hw => hasR_c d.spans x.s.m x.s.f [] u w' (hu.fr hw.fr)) ?_
          conv => whnf
          obtain ⟨hb, hhb⟩ : ∃ hb, hasS d.spans x.s.m x.s.f = hb := ⟨_, rfl⟩
          have hin : inD d x = hb := hhb
          rw [hhb]
          conv => whnf
          cases hb
          · conv => whnf
            refine At.meet fun w' hw => ⟨(), trivial, Le.of rfl rfl ⟨rfl, rfl, rfl, rfl, rfl, rfl, rfl, congrArg Value.bool (by rw [hin]; rfl), trivial⟩, hw.keep [2, 1, 0] rfl rfl rfl, ⟨⟨_, _, rfl⟩, ⟨_, _, _, rfl⟩, ⟨_, _, rfl⟩, trivial⟩, ⟨(nopL _).okH, trivial⟩⟩
          · conv => whnf
            refine At.meet fun w' hw => ⟨(), trivial, Le.of rfl rfl ⟨rfl, rfl, rfl, rfl, rfl, rfl, rfl, congrArg Value.bool (by rw [hin]; rfl), trivial⟩, hw.keep [2, 1, 0] rfl rfl rfl, ⟨⟨_, _, rfl⟩, ⟨_, _, _, rfl⟩, ⟨_, _, rfl⟩, trivial⟩, ⟨(nopL _).okH, trivial⟩⟩
        rintro ⟨⟩ -
        repeat refine At.seq ?_
        refine At.cond rfl (fun hq => ?_) (fun hq => ?_)
        · have hno : inD d x = false ∨ x.o = x.h := by simpa using hq
          have hlx : lateP d x = false := by
            unfold lateP lateQ
            rcases hno with h | h
            · rw [h]; rfl
            · have : (stL x).o = (stL x).h := h
              rw [decide_eq_true this]; simp
          have hbx : bkL d seen x = x := by
            unfold bkL bkB
            rcases hno with h | h
            · have : hasS d.spans x.s.m x.s.f = false := h
              rw [this]; simp
            · rw [decide_eq_true h.symm]; simp
          refine At.exit ?_
          repeat refine At.seq ?_
          refine At.region tab_ok ?_
          conv => whnf
          refine ⟨⟨by omega, by omega⟩, ?_⟩
          conv => whnf
          refine At.nextH fun w' hw => ⟨(k + 1, lt), ⟨by simp only; omega, by simp only; rw [hsn, hlx, Bool.or_false]⟩, by simp only; omega, Le.of rfl rfl ⟨rfl, rfl, rfl, rfl, rfl, rfl, trivial⟩, hw.keep [1, 0] (by simp only; rw [hus, hbx, set_same hug]; rfl) rfl rfl, ⟨⟨_, _, rfl⟩, ⟨_, _, _, rfl⟩, trivial⟩, ⟨(nopL _).okH, trivial⟩⟩
        · have hyes : inD d x = true ∧ ¬ x.o = x.h := by simpa using hq
          obtain ⟨hin, hoh⟩ := hyes
          have hin' : hasS d.spans x.s.m x.s.f = true := hin
          have hlx : lateP d x = (decide (x.h = d.author) && decide (x.u < d.day)) := by
            unfold lateP lateQ
            have : ¬ (stL x).o = (stL x).h := hoh
            rw [hin, decide_eq_false this]; rfl
          have hbx : bkB d seen x = (decide (x.o = d.author) && (decide (x.p = -1) && decide (x.u < ofK seen x.h))) := by
            unfold bkB
            rw [hin', decide_eq_false (p := x.h = x.o) (fun e => hoh e.symm)]
            cases decide (x.o = d.author) <;> cases decide (x.p = -1) <;> simp
          refine At.skip ?_
          repeat refine At.seq ?_
          refine At.join (fun _u : Unit => { N := Tryz.f14.ntmps, sl := [(0, some (.x v)), (2, some (.x z)), (4, some (.s (.c (.p 0 b4 0)))), (8, some (.s (.c (.o 1 v3)))), (9, some (.b ((Bool.or lt (lateP d x))))), (10, some (.i k)), (11, some (.s (.c (.p 2 b11 0))))], gl := [], hp := [(2, .box b11 27 (encL x)), (1, .row v3 27 7 (Q.map encL)), (0, .box b4 44 (encD d u))], S := [], ws := w }) (fun _u : Unit => True) ?_ ?_
          · repeat refine At.seq ?_
            refine At.regionG tab_ok ?_
            conv => whnf
            clear hltk hsn
            cases lt
            · conv => whnf
              by_cases hh : x.h = d.author
              · rw [decide_eq_true hh]
                conv => whnf
                refine At.meet fun w' hw => ⟨(), trivial, Le.of rfl rfl ⟨rfl, rfl, rfl, rfl, congrArg Value.bool (by rw [hlx, decide_eq_true hh]; rfl), rfl, rfl, trivial⟩, hw.keep [2, 1, 0] rfl rfl rfl, ⟨⟨_, _, rfl⟩, ⟨_, _, _, rfl⟩, ⟨_, _, rfl⟩, trivial⟩, ⟨(nopL _).okH, trivial⟩⟩
              · rw [decide_eq_false hh]
                conv => whnf
                refine At.meet fun w' hw => ⟨(), trivial, Le.of rfl rfl ⟨rfl, rfl, rfl, rfl, congrArg Value.bool (by rw [hlx, decide_eq_false hh]; rfl), rfl, rfl, trivial⟩, hw.keep [2, 1, 0] rfl rfl rfl, ⟨⟨_, _, rfl⟩, ⟨_, _, _, rfl⟩, ⟨_, _, rfl⟩, trivial⟩, ⟨(nopL _).okH, trivial⟩⟩
            · conv => whnf
              refine At.meet fun w' hw => ⟨(), trivial, Le.of rfl rfl ⟨rfl, rfl, rfl, rfl, rfl, rfl, rfl, trivial⟩, hw.keep [2, 1, 0] rfl rfl rfl, ⟨⟨_, _, rfl⟩, ⟨_, _, _, rfl⟩, ⟨_, _, rfl⟩, trivial⟩, ⟨(nopL _).okH, trivial⟩⟩
          rintro ⟨⟩ -
          repeat refine At.seq ?_
          refine At.join (fun _u : Unit => { N := Tryz.f14.ntmps, sl := [(0, some (.x v)), (2, some (.x z)), (4, some (.s (.c (.p 0 b4 0)))), (8, some (.s (.c (.o 1 v3)))), (9, some (.b ((Bool.or lt (lateP d x))))), (10, some (.i k)), (11, some (.s (.c (.p 2 b11 0)))), (88, some (.b ((bkB d seen x))))], gl := [], hp := [(2, .box b11 27 (encL x)), (1, .row v3 27 7 (Q.map encL)), (0, .box b4 44 (encD d u))], S := [], ws := w }) (fun _u : Unit => True) ?_ ?_
          · repeat refine At.seq ?_
            refine At.planG tab_ok mixed [(2, .box b11 27 (encL x)), (1, .row v3 27 7 (Q.map encL)), (0, .box b4 44 (encD d u))] (.take 0 (.take 1 (.take 2 (.take 3 (.take 4 (.take 5 (.take 6 (.take 7 (.take 8 (.take 9 (.take 10 (.take 11 (.take 12 (.take 13 (.take 15 (.take 16 (.br 14 (.take 17 (.take 18 (.done))) (.nob)))))))))))))))))) (by kernel_rfl) (by kernel_rfl) ⟨rfl, rfl, rfl, trivial⟩ ?_
            conv => whnf
            by_cases ho : x.o = d.author
            · rw [decide_eq_true ho]
              conv => whnf
              by_cases hp : x.p = -1
              · rw [decide_eq_true hp]
                conv => whnf
                refine ⟨?_, trivial⟩
                conv => whnf
                refine ans_call bz29 rfl (fun w' hw => ofR_c seen x.h [] z w' (hz.fr hw.fr)) ?_
                conv => whnf
                refine ⟨⟨⟨rfl, rfl, rfl, trivial⟩, fun w' hw => hw.fr⟩, ?_⟩
                conv => whnf
                refine At.meet fun w' hw => ⟨(), trivial, Le.of rfl rfl ⟨rfl, rfl, rfl, rfl, rfl, rfl, rfl, congrArg Value.bool (by rw [hbx, decide_eq_true ho, decide_eq_true hp]; rfl), trivial⟩, hw.keep [2, 1, 0] rfl rfl rfl, ⟨⟨_, _, rfl⟩, ⟨_, _, _, rfl⟩, ⟨_, _, rfl⟩, trivial⟩, ⟨(nopL _).okH, trivial⟩⟩
              · rw [decide_eq_false hp]
                conv => whnf
                refine ⟨?_, trivial⟩
                conv => whnf
                refine ⟨⟨⟨rfl, rfl, rfl, trivial⟩, fun w' hw => hw.fr⟩, ?_⟩
                conv => whnf
                refine At.meet fun w' hw => ⟨(), trivial, Le.of rfl rfl ⟨rfl, rfl, rfl, rfl, rfl, rfl, rfl, congrArg Value.bool (by rw [hbx, decide_eq_true ho, decide_eq_false hp]; rfl), trivial⟩, hw.keep [2, 1, 0] rfl rfl rfl, ⟨⟨_, _, rfl⟩, ⟨_, _, _, rfl⟩, ⟨_, _, rfl⟩, trivial⟩, ⟨(nopL _).okH, trivial⟩⟩
            · rw [decide_eq_false ho]
              conv => whnf
              refine ⟨?_, trivial⟩
              conv => whnf
              refine ⟨⟨⟨rfl, rfl, rfl, trivial⟩, fun w' hw => hw.fr⟩, ?_⟩
              conv => whnf
              refine At.meet fun w' hw => ⟨(), trivial, Le.of rfl rfl ⟨rfl, rfl, rfl, rfl, rfl, rfl, rfl, congrArg Value.bool (by rw [hbx, decide_eq_false ho]; rfl), trivial⟩, hw.keep [2, 1, 0] rfl rfl rfl, ⟨⟨_, _, rfl⟩, ⟨_, _, _, rfl⟩, ⟨_, _, rfl⟩, trivial⟩, ⟨(nopL _).okH, trivial⟩⟩
          rintro ⟨⟩ -
          repeat refine At.seq ?_
          refine At.cond rfl (fun hq => ?_) (fun hq => ?_)
          · have hqb : bkB d seen x = true := by assumption
            have hbl : bkL d seen x = { x with h := x.o, u := 0 } := by unfold bkL; rw [if_pos hqb]
            rw [hbl] at hus
            have hs1 : (Q.map encL).set k [.i x.s.m, .i x.s.f, .i x.s.t, .i x.o, .i x.o, .i x.u, .i x.p] = (Q.set k { x with h := x.o }).map encL := by rw [List.map_set]; rfl
            have hg2 : ((Q.set k { x with h := x.o }).map encL)[k]? = some (encL { x with h := x.o }) := by rw [List.getElem?_map, List.getElem?_set_self (by omega)]; rfl
            have hs2 : ((Q.set k { x with h := x.o }).map encL).set k [.i x.s.m, .i x.s.f, .i x.s.t, .i x.o, .i x.o, .i 0, .i x.p] = (Q.set k { x with h := x.o, u := 0 }).map encL := by rw [List.map_set, List.map_set, List.set_set]; rfl
            have hq2 : ((Q.set k { x with h := x.o }).map encL).length = C.length := by rw [List.length_map, List.length_set]; exact hlen
            repeat refine At.seq ?_
            refine At.region tab_ok ?_
            conv => whnf
            refine ⟨rfl, ?_⟩
            conv => whnf
            refine ⟨by omega, ?_⟩
            conv => whnf
            refine ⟨by omega, ?_⟩
            conv => whnf
            refine ⟨encL x, ⟨rfl, rfl, by omega, by rw [Int.toNat_natCast]; exact hgq⟩, ?_⟩
            conv => whnf
            rw [Int.toNat_natCast, hs1]
            repeat refine At.seq ?_
            refine At.region tab_ok ?_
            conv => whnf
            refine ⟨rfl, ?_⟩
            conv => whnf
            refine ⟨by omega, ?_⟩
            conv => whnf
            refine ⟨by omega, ?_⟩
            conv => whnf
            refine ⟨encL { x with h := x.o }, ⟨rfl, rfl, by omega, by rw [Int.toNat_natCast]; exact hg2⟩, ?_⟩
            conv => whnf
            rw [Int.toNat_natCast, hs2]
            repeat refine At.seq ?_
            refine At.region tab_ok ?_
            conv => whnf
            refine ⟨⟨by omega, by omega⟩, ?_⟩
            conv => whnf
            refine At.nextH fun w' hw => ⟨(k + 1, Bool.or lt (lateP d x)), ⟨by simp only; omega, by simp only; rw [hsn]⟩, by simp only; omega, Le.of rfl rfl ⟨rfl, rfl, rfl, rfl, rfl, rfl, trivial⟩, hw.keep [1, 0] (by simp only; rw [hus]; rfl) rfl rfl, ⟨⟨_, _, rfl⟩, ⟨_, _, _, rfl⟩, trivial⟩, ⟨(nopL _).okH, trivial⟩⟩
          · have hqb : ¬ bkB d seen x = true := by simpa using hq
            have hbl : bkL d seen x = x := by unfold bkL; rw [if_neg hqb]
            refine At.skip ?_
            repeat refine At.seq ?_
            refine At.region tab_ok ?_
            conv => whnf
            refine ⟨⟨by omega, by omega⟩, ?_⟩
            conv => whnf
            refine At.nextH fun w' hw => ⟨(k + 1, Bool.or lt (lateP d x)), ⟨by simp only; omega, by simp only; rw [hsn]⟩, by simp only; omega, Le.of rfl rfl ⟨rfl, rfl, rfl, rfl, rfl, rfl, trivial⟩, hw.keep [1, 0] (by simp only; rw [hus, hbl, set_same hug]; rfl) rfl rfl, ⟨⟨_, _, rfl⟩, ⟨_, _, _, rfl⟩, trivial⟩, ⟨(nopL _).okH, trivial⟩⟩
      have hke : k = C.length := by have := of_decide_eq_false hc; omega
      subst hke
      rw [List.take_length, List.drop_length, List.append_nil]
      rw [List.take_length] at hltk
      have hlR : lateR d L = C.any (lateP d) := by unfold lateR; rw [hC]; rfl
      refine At.meet fun w' hw => ⟨(w', v3, lt), ⟨by simp only; rw [e1, hC]; exact slL _ (hw.row (id := 1) rfl) (by rw [List.length_map]; omega), hw.fr, by simp only; rw [if_pos ⟨hk, hr⟩, hlR, hltk], hw.objs _ (look_mem (s := 0) rfl), (hw.fresh (id := 0) rfl b4 (by simp [LO.blks])).elim (fun h => (by cases h)) id⟩, Le.of rfl rfl ⟨rfl, rfl, rfl, rfl, rfl, trivial⟩, Holds.cast (fun o ho => by rw [List.mem_singleton.1 ho]; exact hw.objs _ (look_mem (s := 0) rfl)) (by simp [St.blks, LO.blks]) (fun c hc => by simpa [St.blks, LO.blks] using hc) rfl, ⟨⟨_, _, rfl⟩, trivial⟩, trivial⟩
    · have hkr : ¬ (d.kind ≠ 0 ∧ right d = true) := by
        rintro ⟨a, b⟩
        rw [decide_eq_false a, b] at hq; cases hq
      refine At.skip ?_
      have e1 : freeR d seen L = L := by unfold freeR; rw [if_neg hkr]
      refine At.meet fun w' hw => ⟨(w', v, false), ⟨by simp only; rw [e1]; exact h.ext hw.fr, hw.fr, by simp only; rw [if_neg hkr], hw.objs _ (look_mem (s := 0) rfl), (hw.fresh (id := 0) rfl b4 (by simp [LO.blks])).elim (fun h => (by cases h)) id⟩, Le.of rfl rfl ⟨rfl, rfl, rfl, rfl, rfl, trivial⟩, Holds.cast (fun o ho => by rw [List.mem_singleton.1 ho]; exact hw.objs _ (look_mem (s := 0) rfl)) (by simp [St.blks, LO.blks]) (fun c hc => by simpa [St.blks, LO.blks] using hc) rfl, ⟨⟨_, _, rfl⟩, trivial⟩, trivial⟩
  rintro ⟨ws, q, lt⟩ ⟨hq, hx, hlt, hbox, hb4⟩
  simp only at hq hx hlt hbox hb4 ⊢
  have hgf : Good (mergeL (freeR d seen L)) := by
    by_cases hkr : d.kind ≠ 0 ∧ right d = true
    · have e : mergeL (freeR d seen L) = backRun d seen L := by unfold freeR; rw [if_pos hkr]; exact (back_is hg.ord d seen hkr.2).symm
      have := (good_freeN hg d seen).1
      unfold freeL at this
      rw [if_neg hkr.1] at this
      rw [e]; exact this
    · have e : freeR d seen L = L := by unfold freeR; rw [if_neg hkr]
      rw [e, merge_id hg.mgd]; exact hg
  have hfl : (freeR d seen L).length ≤ 100000 := by
    obtain ⟨_, _, c3, _, _⟩ := cutAll_spec d.spans hg.ord
    unfold freeR
    split
    · rw [List.length_map]; omega
    · omega
  have hml := merge_len (freeR d seen L)
  obtain ⟨M, hM⟩ : ∃ M, mergeL (freeR d seen L) = M := ⟨_, rfl⟩
  have hux := hu.ext hx
  rw [hM] at hml hgf
  repeat refine At.seq ?_
  refine At.planG tab_ok mixed [(0, .box b4 44 (encD d u))] (.take 0 (.take 2 (.br 1 (.br 3 (.take 4 (.take 5 (.take 6 (.take 7 (.take 8 (.done)))))) (.nob)) (.nob)))) (by kernel_rfl) (by kernel_rfl) ⟨rfl, trivial⟩ ?_
  conv => whnf
  refine ⟨?_, trivial⟩
  conv => whnf
  refine ansR_call b108 (rd1 (nopL _)) (fun w' hw => merged_c (freeR d seen L) q w' (hq.ext (box_ext hw.fr rfl hbox (hw.objs _ (look_mem (s := 0) rfl)))) (by omega)) ?_
  intro vm
  conv => whnf
  rw [hM]
  refine ⟨⟨⟨rfl, trivial⟩, fun w' hw => hw.fr⟩, ?_⟩
  conv => whnf
  refine ⟨?_, trivial⟩
  conv => whnf
  refine row_call (id := 1) (v := vm) (E := 27) (size := 7) (L := M.map encL) b72 rfl (fun r v' L' => r = .tup [.c (.o 1 v'), .c (.i (refDo d M).2)] ∧ L' = (refDo d M).1.map encL) (fun w' hw => (doR_c M d vm u w' (SlOf.of_row (hw.row (id := 1) rfl) (fun b hb hb' => by cases hb') (by omega)) (hux.ext (box_ext hw.fr rfl hbox (hw.objs _ (look_mem (s := 0) rfl)))) hgf (by omega) (by omega)).mono fun e w2 ⟨r, L', n, he, heq, hx, hor⟩ => ?_) ?_
  · obtain ⟨hL', hn⟩ : L' = (refDo d M).1 ∧ n = (refDo d M).2 := by rw [← heq]; exact ⟨rfl, rfl⟩
    refine ⟨.tup [.c (.o 1 r), .c (.i (refDo d M).2)], r, L'.map encL, by rw [he, hn]; rfl, ⟨rfl, by rw [hL']⟩, ?_, hx.fr _, ?_⟩
    · rcases hor with ⟨rfl, hLL⟩ | ⟨hrow, _⟩
      · rw [hLL]; exact LO.holds_ext hx (hw.row (id := 1) rfl)
      · exact hrow
    · rcases hor with ⟨rfl, _⟩ | ⟨_, hfr⟩
      · exact fun b hb => .inl hb
      · exact fun b hb => .inr (hfr b hb)
  rintro r v2 L' ⟨rfl, rfl⟩ hsl2
  refine ⟨?_, nopL _, ?_⟩
  · intro x hx
    rcases List.mem_cons.1 hx with rfl | hx
    · exact hsl2
    · rw [List.mem_singleton.1 hx]; trivial
  conv => whnf
  refine ⟨⟨⟨rfl, trivial⟩, fun w' hw => hw.fr⟩, ?_⟩
  conv => whnf
  have href : refL d seen L = if (refDo d M).2 ≠ 0 then (L, (refDo d M).2) else if (d.kind ≠ 0 ∧ right d = true) ∧ lateR d L = true then (L, 25) else ((refDo d M).1, 0) := by unfold refL; rw [hM]
  repeat refine At.seq ?_
  refine At.region tab_ok ?_
  conv => whnf
  repeat refine At.seq ?_
  refine At.cond rfl (fun hq => ?_) (fun hq => ?_)
  · have hne : (refDo d M).2 ≠ 0 := by simpa using hq
    repeat refine At.seq ?_
    refine At.region tab_ok ?_
    conv => whnf
    repeat refine At.seq ?_
    refine At.ret (At.doneB tab_ok hB _ rfl fun w' hw => ⟨v, L, (refDo d M).2, rfl, by rw [href, if_pos hne], hx.trans (box_ext hw.fr rfl hbox (hw.objs _ (look_mem (s := 0) rfl))), .inl ⟨rfl, rfl⟩⟩)
  have h0 : (refDo d M).2 = 0 := by simpa using hq
  refine At.skip ?_
  repeat refine At.seq ?_
  refine At.region tab_ok ?_
  conv => whnf
  repeat refine At.seq ?_
  refine At.cond rfl (fun hq => ?_) (fun hq => ?_)
  · have hl1 : (d.kind ≠ 0 ∧ right d = true) ∧ lateR d L = true := by
      have : lt = true := by assumption
      rw [this] at hlt
      by_cases hkr : d.kind ≠ 0 ∧ right d = true
      · rw [if_pos hkr] at hlt; exact ⟨hkr, hlt.symm⟩
      · rw [if_neg hkr] at hlt; cases hlt
    repeat refine At.seq ?_
    refine At.region tab_ok ?_
    conv => whnf
    repeat refine At.seq ?_
    refine At.ret (At.doneB tab_ok hB _ rfl fun w' hw => ⟨v, L, 25, rfl, by rw [href, if_neg (fun h => h h0), if_pos hl1], hx.trans (box_ext hw.fr rfl hbox (hw.objs _ (look_mem (s := 0) rfl))), .inl ⟨rfl, rfl⟩⟩)
  have hl1 : ¬ ((d.kind ≠ 0 ∧ right d = true) ∧ lateR d L = true) := by
    rintro ⟨a, b⟩
    rw [if_pos a, b] at hlt
    have : lt = false := by assumption
    rw [this] at hlt; cases hlt
  refine At.skip ?_
  repeat refine At.seq ?_
  refine At.region tab_ok ?_
  conv => whnf
  repeat refine At.seq ?_
  refine At.ret (At.doneB tab_ok hB _ rfl fun w' hw => ⟨v2, (refDo d M).1, 0, rfl, by rw [href, if_neg (fun h => h h0), if_neg hl1], hx.trans (box_ext hw.fr rfl hbox (hw.objs _ (look_mem (s := 0) rfl))), .inr ⟨hw.row (id := 1) rfl, fun b hb => (hw.fresh (id := 1) rfl b hb).elim (fun h => by rw [List.mem_singleton.1 h]; exact hb4) (fun h => Nat.le_trans hx.size h)⟩⟩)
end Go.Proofs.YtjilbkioieicbaaGreat

/- Walks: the reference 28's Lots; Spans. -/
namespace Go.Proofs.YtjilbkioieicbaaGreat
open Go.Vc Rt
set_option linter.unusedVariables false
set_option linter.unusedSimpArgs false
theorem lots28_c (l : List Deed) (seen : List (List Int)) (v z : Value) (w : World) (h : SlOf deT [] w v l) (hz : SlOf seT [] w z seen) (hN : l.length ≤ 50) (h8 : ∀ d ∈ l, d.spans.length ≤ 8) :
    AnsR Tryz.prog 8 [v, z] [.row 27 7 ((leaseK l seen).1.map encL), .row 38 1 ((leaseK l seen).2.map encI)] w := by
  have hl := h.len
  have hzl := hz.len
  refine calls_plainB [.x v, .x z] Tryz.func8 rfl rfl (Nat.le_of_ble_eq_true rfl) rfl fun B hB => ?_
  repeat refine At.seq ?_
  refine At.region tab_ok ?_
  conv => whnf
  repeat refine At.seq ?_
  refine At.region tab_ok ?_
  conv => whnf
  repeat refine At.seq ?_
  refine At.region tab_ok ?_
  conv => whnf
  repeat refine At.seq ?_
  refine At.region tab_ok ?_
  conv => whnf
  repeat refine At.seq ?_
  refine At.block ?_
  refine At.loopH (fun p : Nat × Value × Value => { N := Tryz.f8.ntmps, sl := [(0, some (.x v)), (1, some (.x z)), (6, some (.s (.c (.o 1 p.2.1)))), (7, some (.s (.c (.o 0 p.2.2)))), (8, some (.i p.1))], gl := [], hp := [(1, .row p.2.1 27 7 ((leaseF ((pairUp l seen).take p.1)).1.map encL)), (0, .row p.2.2 38 1 ((leaseF ((pairUp l seen).take p.1)).2.map encI))], S := [], ws := w }) (fun p : Nat × Value × Value => p.1 ≤ l.length) (fun p : Nat × Value × Value => l.length - p.1)
    (fun w' hw => ⟨(0, .slice none 0 0, .slice none 0 0), Nat.zero_le _, Le.of rfl rfl ⟨rfl, rfl, rfl, rfl, rfl, trivial⟩, hw.nil2 rfl rfl rfl, ⟨⟨_, _, _, rfl⟩, ⟨_, _, _, rfl⟩, trivial⟩, ⟨(nopL _).okH, (nopI _).okH, trivial⟩⟩) ?_
  rintro ⟨k, v1, ve⟩ hk
  simp only at hk ⊢
  repeat refine At.seq ?_
  refine At.region tab_ok ?_
  conv => whnf
  refine ⟨h.sl, ?_⟩
  conv => whnf
  rw [hl]
  conv => whnf
  repeat refine At.seq ?_
  refine At.cond rfl (fun hc => At.skip ?_) (fun hc => At.exit ?_)
  · have hltd : k < l.length := by have := of_decide_eq_true hc; omega
    obtain ⟨d, hd⟩ : ∃ x, l[k]? = some x := ⟨_, List.getElem?_eq_getElem hltd⟩
    obtain ⟨_, ⟨u, rfl, hu⟩, hcells⟩ := h.at hd
    have hpm : ∀ x ∈ (pairUp l seen).take k, x.1.spans.length ≤ 8 := fun x hx => h8 x.1 (pairUp_mem (List.mem_of_mem_take hx))
    obtain ⟨hgood, hlk, hel⟩ := leaseF_good _ ((pairUp l seen).take k) rfl hpm
    have hd8 := h8 d (List.mem_of_getElem? hd)
    have hpd := pairUp_get (seen := seen) hd
    have hsn : leaseF ((pairUp l seen).take (k + 1)) = ((leaseDo d (seen.getD k []) (leaseF ((pairUp l seen).take k)).1).1, (leaseF ((pairUp l seen).take k)).2 ++ [(leaseDo d (seen.getD k []) (leaseF ((pairUp l seen).take k)).1).2]) := by rw [List.take_add_one, hpd]; exact leaseF_snoc _ _
    have hpl := pairUp_len l seen
    rw [List.length_take] at hlk hel
    generalize leaseF ((pairUp l seen).take k) = q at *
    obtain ⟨L, es⟩ := q
    simp only at hsn hel hlk hgood ⊢
    repeat refine At.seq ?_
    refine At.block ?_
    repeat refine At.seq ?_
    refine At.region tab_ok ?_
    conv => whnf
    repeat refine At.seq ?_
    refine At.region tab_ok ?_
    conv => whnf
    refine ⟨hz.sl, ?_⟩
    conv => whnf
    rw [hzl]
    conv => whnf
    repeat refine At.seq ?_
    refine At.join (fun s : Value => { N := Tryz.f8.ntmps, sl := [(0, some (.x v)), (1, some (.x z)), (6, some (.s (.c (.o 1 v1)))), (7, some (.s (.c (.o 0 ve)))), (8, some (.i k)), (9, some (.x s))], gl := [], hp := [(1, .row v1 27 7 (L.map encL)), (0, .row ve 38 1 (es.map encI))], S := [], ws := w }) (fun s : Value => SlOf intT [] w s (seen.getD k [])) ?_ ?_
    · repeat refine At.seq ?_
      refine At.cond rfl (fun hq => ?_) (fun hq => ?_)
      · have hks : k < seen.length := by have := of_decide_eq_true hq; omega
        obtain ⟨x, hx⟩ : ∃ x, seen[k]? = some x := ⟨_, List.getElem?_eq_getElem hks⟩
        obtain ⟨_, ⟨s, rfl, hs⟩, hsc⟩ := hz.at hx
        have e : seen.getD k [] = x := by rw [List.getD_eq_getElem?_getD, hx]; rfl
        repeat refine At.seq ?_
        refine At.region tab_ok ?_
        conv => whnf
        refine ⟨by omega, ?_⟩
        conv => whnf
        refine ⟨by omega, ?_⟩
        conv => whnf
        refine ⟨[.x s], fun w' hw => hsc w' hw.fr, ?_⟩
        conv => whnf
        refine At.meet fun w' hw => ⟨s, by rw [e]; exact hs, Le.of rfl rfl ⟨rfl, rfl, rfl, rfl, rfl, rfl, trivial⟩, hw.keep [1, 0] rfl rfl rfl, ⟨⟨_, _, _, rfl⟩, ⟨_, _, _, rfl⟩, trivial⟩, ⟨(nopL _).okH, (nopI _).okH, trivial⟩⟩
      · have hks : seen.length ≤ k := by have := of_decide_eq_false hq; omega
        have e : seen.getD k [] = [] := by rw [List.getD_eq_getElem?_getD, List.getElem?_eq_none hks]; rfl
        refine At.skip ?_
        refine At.meet fun w' hw => ⟨(.slice none 0 0), by rw [e]; exact nilI w, Le.of rfl rfl ⟨rfl, rfl, rfl, rfl, rfl, rfl, trivial⟩, hw.keep [1, 0] rfl rfl rfl, ⟨⟨_, _, _, rfl⟩, ⟨_, _, _, rfl⟩, trivial⟩, ⟨(nopL _).okH, (nopI _).okH, trivial⟩⟩
    intro s hs
    have heq := refL_eq hgood (seen.getD k []) hd8
    repeat refine At.seq ?_
    refine At.region tab_ok ?_
    conv => whnf
    refine ⟨by omega, ?_⟩
    conv => whnf
    refine ⟨by omega, ?_⟩
    conv => whnf
    refine ⟨encD d u, fun w' hw => hcells w' hw.fr, ?_⟩
    conv => whnf
    refine row_call (id := 1) (v := v1) (E := 27) (size := 7) (L := L.map encL) bz14 rfl (fun r v' L' => r = .tup [.c (.o 1 v'), .c (.i (leaseDo d (seen.getD k []) L).2)] ∧ L' = (leaseDo d (seen.getD k []) L).1.map encL) (fun w' hw => (do28_c L d (seen.getD k []) v1 u s w' (slL _ (hw.row (id := 1) rfl) (by omega)) (hu.fr hw.fr) (hs.fr hw.fr) hgood (by omega) hd8).mono fun e w2 ⟨r, L', n, he, hr, hx, hor⟩ => ?_) ?_
    · rw [heq] at hr
      obtain ⟨hL', hn⟩ : L' = (leaseDo d (seen.getD k []) L).1 ∧ n = (leaseDo d (seen.getD k []) L).2 := by rw [← hr]; exact ⟨rfl, rfl⟩
      refine ⟨.tup [.c (.o 1 r), .c (.i (leaseDo d (seen.getD k []) L).2)], r, L'.map encL, by rw [he, hn]; rfl, ⟨rfl, by rw [hL']⟩, ?_, hx.fr _, ?_⟩
      · rcases hor with ⟨rfl, hLL⟩ | ⟨hrow, _⟩
        · rw [hLL]; exact LO.holds_ext hx (hw.row (id := 1) rfl)
        · exact hrow
      · rcases hor with ⟨rfl, _⟩ | ⟨_, hfr⟩
        · exact fun b hb => .inl hb
        · exact fun b hb => .inr (hfr b hb)
    rintro r v2 L' ⟨rfl, rfl⟩ hsl2
    refine ⟨?_, nopL _, ?_⟩
    · intro x hx
      rcases List.mem_cons.1 hx with rfl | hx
      · exact hsl2
      · rw [List.mem_singleton.1 hx]; trivial
    conv => whnf
    repeat refine At.seq ?_
    refine At.region tab_ok ?_
    conv => whnf
    repeat refine At.seq ?_
    refine At.region tab_ok ?_
    conv => whnf
    intro v3
    conv => whnf
    refine ⟨rfl, ?_⟩
    conv => whnf
    refine ⟨⟨rfl, by simp; omega⟩, ?_⟩
    conv => whnf
    intro v4
    conv => whnf
    repeat refine At.seq ?_
    refine At.region tab_ok ?_
    conv => whnf
    refine ⟨⟨by omega, by omega⟩, ?_⟩
    conv => whnf
    refine At.nextH fun w' hw => ⟨(k + 1, v2, v4), by simp only; omega, by simp only; omega, Le.of rfl rfl ⟨rfl, rfl, rfl, rfl, rfl, trivial⟩, hw.keep [1, 0] (by simp only; rw [hsn, List.map_append]; rfl) rfl rfl, ⟨⟨_, _, _, rfl⟩, ⟨_, _, _, rfl⟩, trivial⟩, ⟨(nopL _).okH, (nopI _).okH, trivial⟩⟩
  have hge : k = l.length := by have := of_decide_eq_false hc; omega
  subst hge
  have hpl := pairUp_len l seen
  rw [← hpl, List.take_length]
  repeat refine At.seq ?_
  refine At.region tab_ok ?_
  conv => whnf
  repeat refine At.seq ?_
  refine At.ret (At.doneB tab_ok hB _ rfl fun w' hw => ansR_rows2 (i := 1) (j := 0) hw rfl rfl (by decide) rfl rfl)
def sameS (a b : List Span) : Bool := decide (a = b)
theorem spans07_c (xs : List Span) (v v' : Value) (w : World) (h : SlOf spT [] w v xs) (h' : SlOf spT [] w v' xs) : Ans Tryz.prog 15 [v, v'] (.b true) w := by
  have hl := h.len
  have hsm := h.small
  have hl' := h'.len
  refine calls_plainB [.x v, .x v'] Tryz.func15 rfl rfl (Nat.le_of_ble_eq_true rfl) rfl fun B hB => ?_
  repeat refine At.seq ?_
  refine At.region tab_ok ?_
  conv => whnf
  repeat refine At.seq ?_
  refine At.region tab_ok ?_
  conv => whnf
  refine ⟨h.sl, ?_⟩
  conv => whnf
  refine ⟨h'.sl, ?_⟩
  conv => whnf
  rw [hl, hl', decide_eq_true (rfl : (xs.length : Int) = _)]
  conv => whnf
  repeat refine At.seq ?_
  refine At.cond (t := false) rfl (fun hq => by cases hq) (fun hq => At.skip ?_)
  repeat refine At.seq ?_
  refine At.region tab_ok ?_
  conv => whnf
  repeat refine At.seq ?_
  refine At.block ?_
  refine At.loopH (fun p : Nat => { N := Tryz.f15.ntmps, sl := [(0, some (.x v)), (1, some (.x v')), (5, some (.i p))], gl := [], hp := [], S := [], ws := w }) (fun p : Nat => p ≤ xs.length) (fun p : Nat => xs.length - p)
    (fun w' hw => ⟨0, Nat.zero_le _, Le.of rfl rfl ⟨rfl, rfl, rfl, trivial⟩, hw.same rfl rfl rfl, trivial, trivial⟩) ?_
  intro k hk
  repeat refine At.seq ?_
  refine At.region tab_ok ?_
  conv => whnf
  refine ⟨h.sl, ?_⟩
  conv => whnf
  rw [hl]
  conv => whnf
  repeat refine At.seq ?_
  refine At.cond rfl (fun hc => At.skip ?_) (fun hc => At.exit ?_)
  · have hlt : k < xs.length := by have := of_decide_eq_true hc; omega
    obtain ⟨x, hx⟩ : ∃ x, xs[k]? = some x := ⟨_, List.getElem?_eq_getElem hlt⟩
    repeat refine At.seq ?_
    refine At.block ?_
    repeat refine At.seq ?_
    refine At.draw tab_ok mixed (by kernel_rfl) ?_
    conv => whnf
    refine ⟨by omega, ?_⟩
    conv => whnf
    refine ⟨by omega, ?_⟩
    conv => whnf
    refine ⟨encS x, fun w' hw => h.load (n := 3) hw.fr hx rfl, ?_⟩
    conv => whnf
    refine ⟨by omega, ?_⟩
    conv => whnf
    refine ⟨by omega, ?_⟩
    conv => whnf
    refine ⟨encS x, fun w' hw => h'.load (n := 3) hw.fr hx rfl, ?_⟩
    conv => whnf
    repeat refine At.seq ?_
    refine At.cond rfl (fun hq => ?_) (fun hq => ?_)
    · simp at hq
    refine At.skip ?_
    repeat refine At.seq ?_
    refine At.region tab_ok ?_
    conv => whnf
    refine ⟨⟨by omega, by omega⟩, ?_⟩
    conv => whnf
    refine At.nextH fun w' hw => ⟨k + 1, by omega, by omega, Le.of rfl rfl ⟨rfl, rfl, rfl, trivial⟩, hw.same rfl rfl rfl, trivial, trivial⟩
  repeat refine At.seq ?_
  refine At.region tab_ok ?_
  conv => whnf
  repeat refine At.seq ?_
  refine At.ret (At.doneB tab_ok hB _ rfl fun w' hw => ⟨rfl, hw.fr⟩)
end Go.Proofs.YtjilbkioieicbaaGreat
