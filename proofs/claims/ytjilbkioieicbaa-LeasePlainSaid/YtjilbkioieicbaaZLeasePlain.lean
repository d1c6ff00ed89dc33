/- The law LeasePlain: for every input the call returns true and the arguments read as before; no condition. -/
import Derived.Test.YtjilbkioieicbaaMF
import Derived.Test.YtjilbkioieicbaaRows
import Derived.WalkKit
import Derived.ProofKit
import Derived.OpenShut
import Derived.Carry
/- The law LeasePlain, in plain terms. -/
namespace Go.Proofs.Ytjilbkioieicbaa
open Go.Vc Rt
set_option linter.unusedVariables false
set_option linter.unusedSimpArgs false
def plainF (F : Int → Int → Option Sta) : Prop := ∀ m n x, F m n = some x → x.h = x.o
theorem plain_back {F : Int → Int → Option Sta} {d : Deed} {seen : List Int} (h : plainF F) : freeF F d seen = F := by
  unfold freeF
  split
  · rfl
  · funext m n
    unfold backF
    split
    · cases hF : F m n with
      | none => rfl
      | some x =>
        have := h m n x hF
        simp only [Option.map_some, bkS]
        rw [if_neg fun hc => hc.2.1 this]
    · rfl
theorem plain_step {F : Int → Int → Option Sta} {d : Deed} (h : plainF F) (hk : d.kind ≠ 2) : plainF (stepF F d) := by
  intro m n x hx
  by_cases he : errF F d = 0
  · by_cases hh : Has d.spans m n
    · have hr := err_right he
      rcases coin_of he hh with ⟨_, e1, e2⟩ | ⟨hk0, y, e1, e2, e3, e4, e5⟩
      · rw [e2] at hx; cases hx; rfl
      · rw [e5] at hx; cases hx
        rcases right_kind hr with hk' | hk' | hk' | hk'
        · exact (hk0 hk').elim
        · rw [movedS_1 hk']
        · exact (hk hk').elim
        · rw [movedS_3 hk']; exact h m n y e1
    · rw [coin_not hh] at hx; exact h m n x hx
  · unfold stepF at hx; rw [if_neg he] at hx; exact h m n x hx
theorem plain_lease {L : List Lot} (hg : Good L) (hp : plainF (sta L)) (d : Deed) (seen : List Int) (h8 : d.spans.length ≤ 8) : leaseDo d seen L = doB L d := by
  obtain ⟨f1, f2, _⟩ := good_free hg d seen h8
  rw [plain_back hp] at f2
  have e : freeL d seen L = L := f1.ext hg f2
  have hl : ¬ L.any (lateB d) = true := fun h => by
    obtain ⟨m, n, x, _, h2, h3, h4, _⟩ := (late_iff hg.ord d).1 h
    exact h4 (by rw [← h3, hp m n x h2])
  unfold leaseDo
  rw [e]
  by_cases h0 : (doB L d).2 = 0
  · rw [if_pos h0, if_neg fun h => hl h.2]; exact Prod.ext rfl h0.symm
  · rw [if_neg h0]; exact Prod.ext (doB_refused hg.mgd h0).symm rfl
theorem plain_law : ∀ (n : Nat) (ps : List (Deed × List Int)), ps.length = n → (∀ x ∈ ps, x.1.spans.length ≤ 8 ∧ x.1.kind ≠ 2) → leaseF ps = lotsK (ps.map Prod.fst) ∧ plainF (sta (leaseF ps).1)
  | 0, ps, hn, _ => by
    rw [List.eq_nil_of_length_eq_zero hn]
    exact ⟨rfl, fun m n x hx => by cases hx⟩
  | n + 1, ps, hn, hs => by
    rcases List.eq_nil_or_concat ps with rfl | ⟨qs, x, rfl⟩
    · simp at hn
    · simp only [List.concat_eq_append] at *
      obtain ⟨h1, h2⟩ := plain_law n qs (by simpa using hn) fun y hy => hs y (by simp [hy])
      obtain ⟨hg, _, _⟩ := leaseF_good _ qs rfl fun y hy => (hs y (by simp [hy])).1
      obtain ⟨hx8, hxk⟩ := hs x (by simp)
      have e := plain_lease hg h2 x.1 x.2 hx8
      rw [leaseF_snoc, e, List.map_append, List.map_singleton, lotsK_snoc, ← h1]
      refine ⟨rfl, ?_⟩
      simp only
      rw [(good_do (d := x.1) hg hx8).2.2]
      exact plain_step h2 hxk
theorem pairUp_fst (l : List Deed) (seen : List (List Int)) : (pairUp l seen).map Prod.fst = l := by
  unfold pairUp
  rw [List.map_map]
  exact List.unzip_zipIdx_fst' l
where
  List.unzip_zipIdx_fst' (l : List Deed) : l.zipIdx.map (Prod.fst ∘ fun p => (p.1, seen.getD p.2 [])) = l := by
    have : (Prod.fst ∘ fun p : Deed × Nat => (p.1, seen.getD p.2 ([] : List Int))) = Prod.fst := by funext p; rfl
    rw [this]
    exact List.zipIdx_map_fst 0 l
theorem plainK {S : List Deed} (seen : List (List Int)) (h8 : ∀ d ∈ S, d.spans.length ≤ 8 ∧ d.kind ≠ 2) : leaseK S seen = lotsK S := by
  have := (plain_law _ (pairUp S seen) rfl fun x hx => h8 x.1 (pairUp_mem hx)).1
  rw [pairUp_fst] at this
  exact this
end Go.Proofs.Ytjilbkioieicbaa

/- The law LeasePlain (stokvellaw28): what the call computes. -/
namespace Go.Proofs.Ytjilbkioieicbaa
open Go.Vc Rt
set_option linter.unusedVariables false
set_option linter.unusedSimpArgs false
def noLend (l : List Deed) : List Int := l.map fun d => if d.kind = 2 then 1 else 0
theorem noLend_deeds (l : List Deed) : ∀ d ∈ okDeeds l (noLend l), d.kind ≠ 2 := by
  intro d hd
  unfold okDeeds noLend at hd
  obtain ⟨p, hp, he⟩ := List.mem_filterMap.1 hd
  split at he
  · rename_i h0
    cases he
    obtain ⟨i, hi⟩ := List.getElem?_of_mem hp
    rw [List.getElem?_zip_eq_some] at hi
    obtain ⟨h1, h2⟩ := hi
    rw [List.getElem?_map, h1] at h2
    simp at h2
    intro hk
    rw [if_pos hk] at h2
    omega
  · cases he
theorem leasePlain_c (l : List Deed) (seen : List (List Int)) (v z : Value) (w : World) (h : SlOf deT [] w v l) (hz : SlOf seT [] w z seen) : Ans Try.prog 13 [v, z] (.b true) w := by
  have hl := h.len
  have hsm := h.small
  have hzl := hz.len
  obtain ⟨U, hU⟩ := slices_of h
  refine calls_plainB [.x v, .x z] Try.func13 rfl rfl (Nat.le_of_ble_eq_true rfl) rfl fun B hB => ?_
  repeat refine At.seq ?_
  refine At.region tab_ok ?_
  conv => whnf
  repeat refine At.seq ?_
  refine At.region tab_ok ?_
  conv => whnf
  refine ans_call b42 rfl (fun w' hw => small28_c w') ?_
  conv => whnf
  repeat refine At.seq ?_
  refine At.region tab_ok ?_
  conv => whnf
  refine ans_call b25 rfl (fun w' hw => few_c l 20 [] v w' (h.fr hw.fr)) ?_
  conv => whnf
  refine ⟨.b (few28 seen), by simp only [gimp]; intro _; exact ans_quiet b43 (fun w' hw => few28_c seen z w' (hz.fr hw.fr)), ?_⟩
  conv => whnf
  repeat refine At.seq ?_
  refine At.cond rfl (fun hq => ?_) (fun hq => ?_)
  · repeat refine At.seq ?_
    refine At.region tab_ok ?_
    conv => whnf
    repeat refine At.seq ?_
    refine At.ret (At.doneB tab_ok hB _ rfl fun w' hw => ⟨rfl, hw.fr⟩)
  have hq' : few l 20 = true ∧ few28 seen = true := by
    simp only [bor, Bool.or_eq_false_iff, Bool.not_eq_false'] at hq; exact hq
  obtain ⟨hn, hsp⟩ := few_spec hq'.1
  have hn : l.length ≤ 20 := by omega
  obtain ⟨hs20, _⟩ := few28_spec hq'.2
  refine At.skip ?_
  have hel : (noLend l).length = l.length := by simp [noLend]
  repeat refine At.seq ?_
  refine At.region tab_ok ?_
  conv => whnf
  repeat refine At.seq ?_
  refine At.region tab_ok ?_
  conv => whnf
  repeat refine At.seq ?_
  refine At.block ?_
  refine At.loopH (fun p : Nat × Value => { N := Try.f13.ntmps, sl := [(0, some (.x v)), (1, some (.x z)), (5, some (.b true)), (6, some (.s (.c (.o 0 p.2)))), (7, some (.i p.1))], gl := [], hp := [(0, .row p.2 54 7 (okRows l (noLend l) U p.1))], S := [], ws := w }) (fun p : Nat × Value => p.1 ≤ l.length) (fun p : Nat × Value => l.length - p.1)
    (fun w' hw => ⟨(0, .slice none 0 0), Nat.zero_le _, Le.of rfl rfl ⟨rfl, rfl, rfl, rfl, rfl, trivial⟩, hw.nil rfl rfl rfl, ⟨⟨_, _, _, rfl⟩, trivial⟩, ⟨(okRows_nop _).okH, trivial⟩⟩) ?_
  rintro ⟨k, vs⟩ hk
  simp only at hk ⊢
  repeat refine At.seq ?_
  refine At.region tab_ok ?_
  conv => whnf
  refine ⟨h.sl, ?_⟩
  conv => whnf
  repeat refine At.seq ?_
  refine At.cond rfl (fun hc => At.skip ?_) (fun hc => At.exit ?_)
  · have hltd : k < l.length := by have := of_decide_eq_true hc; (try simp only [List.length_map] at this); omega
    obtain ⟨d, hd⟩ : ∃ x, l[k]? = some x := ⟨_, List.getElem?_eq_getElem hltd⟩
    obtain ⟨hu, hcells⟩ := hU k d hd
    have he : (noLend l)[k]? = some (if d.kind = 2 then 1 else 0) := by unfold noLend; rw [List.getElem?_map, hd]; rfl
    have hrl := (okRows_len (l := l) (es := noLend l) (U := U) k).1
    have hrn : okRows l (noLend l) U (k + 1) = okRows l (noLend l) U k ++ (if (if d.kind = 2 then (1 : Int) else 0) = 0 then [encD d (U k)] else []) := by simp only [okRows, hd, he]
    generalize okRows l (noLend l) U k = R at *
    repeat refine At.seq ?_
    refine At.block ?_
    repeat refine At.seq ?_
    refine At.region tab_ok ?_
    conv => whnf
    refine ⟨by omega, ?_⟩
    conv => whnf
    refine ⟨by omega, ?_⟩
    conv => whnf
    refine ⟨[.i d.kind], fun w' hw => (hcells w' hw.fr).part (n := 1) rfl, ?_⟩
    conv => whnf
    repeat refine At.seq ?_
    refine At.cond rfl (fun hq => ?_) (fun hq => ?_)
    · have hk2 : ¬ d.kind = 2 := by simpa using hq
      repeat refine At.seq ?_
      refine At.region tab_ok ?_
      conv => whnf
      refine ⟨by omega, ?_⟩
      conv => whnf
      refine ⟨by omega, ?_⟩
      conv => whnf
      refine ⟨encD d (U k), fun w' hw => hcells w' hw.fr, ?_⟩
      conv => whnf
      refine ⟨hu.sl.one, ?_⟩
      conv => whnf
      intro v1
      conv => whnf
      refine ⟨rfl, ?_⟩
      conv => whnf
      refine ⟨hu.sl.one, ?_⟩
      conv => whnf
      refine ⟨⟨rfl, by simp; omega⟩, ?_⟩
      conv => whnf
      intro v2
      conv => whnf
      repeat refine At.seq ?_
      refine At.region tab_ok ?_
      conv => whnf
      refine ⟨⟨by omega, by omega⟩, ?_⟩
      conv => whnf
      refine At.nextH fun w' hw => ⟨(k + 1, v2), by simp only; omega, by simp only; omega, Le.of rfl rfl ⟨rfl, rfl, rfl, rfl, rfl, trivial⟩, hw.keep [0] (by simp only; rw [hrn, if_neg hk2, if_pos rfl]; rfl) rfl rfl, ⟨⟨_, _, _, rfl⟩, trivial⟩, ⟨(okRows_nop _).okH, trivial⟩⟩
    · have hk2 : d.kind = 2 := by simpa using hq
      refine At.skip ?_
      repeat refine At.seq ?_
      refine At.region tab_ok ?_
      conv => whnf
      refine ⟨⟨by omega, by omega⟩, ?_⟩
      conv => whnf
      refine At.nextH fun w' hw => ⟨(k + 1, vs), by simp only; omega, by simp only; omega, Le.of rfl rfl ⟨rfl, rfl, rfl, rfl, rfl, trivial⟩, hw.keep [0] (by simp only; rw [hrn, if_pos hk2, if_neg (by decide), List.append_nil]; rfl) rfl rfl, ⟨⟨_, _, _, rfl⟩, trivial⟩, ⟨(okRows_nop _).okH, trivial⟩⟩
  have hge : k = l.length := by have := of_decide_eq_false hc; omega
  subst hge
  have hok : okList l (noLend l) l.length = okDeeds l (noLend l) := by rw [okList_eq hel.symm _ (Nat.le_refl _), List.take_length, ← hel, List.take_length]
  have hrl := okRows_len (l := l) (es := noLend l) (U := U) l.length
  have hrel := fun w' hf => okRows_rel (es := noLend l) (w := w) (w' := w') (fun i d hd => (hU i d hd).1) hf l.length
  have hnp := okRows_nop (l := l) (es := noLend l) (U := U) l.length
  have hmem := okDeeds_mem (l := l) (es := noLend l)
  have hnk := noLend_deeds l
  rw [hok] at hrl hrel
  generalize okRows l (noLend l) U l.length = R at *
  generalize okDeeds l (noLend l) = S at *
  have hS8 : ∀ d ∈ S, d.spans.length ≤ 8 := fun d hd => hsp d (hmem d hd)
  have hpk := plainK seen (S := S) fun d hd => ⟨hS8 d hd, hnk d hd⟩
  have hlenS := (lotsK_keeps _ S rfl hS8).2.2
  have hesS := lotsK_errs S
  repeat refine At.seq ?_
  refine At.region tab_ok ?_
  conv => whnf
  refine ansR_call b44 (rd2 (nopL _) (nopI _)) (fun w' hw => leaseLots_c S seen vs z w' (SlOf.of_rows (hw.row (id := 0) rfl) (fun _ _ => nilS) (by omega) (hrel w' hw.fr)) (hz.fr hw.fr) (by omega) hS8) ?_
  rw [hpk]
  intro va
  conv => whnf
  intro ve
  conv => whnf
  repeat refine At.seq ?_
  refine At.region tab_ok ?_
  conv => whnf
  refine ansR_call b26 (rd2 (nopL _) (nopI _)) (fun w' hw => lots_c S [] vs w' (SlOf.of_rows (hw.row (id := 0) rfl) (fun _ _ => nilS) (by omega) (hrel w' hw.fr)) (by omega) (lots_ok hS8 (by omega))) ?_
  intro vb
  conv => whnf
  intro vf
  conv => whnf
  generalize lotsK S = P at *
  obtain ⟨L1, e1⟩ := P
  simp only at hlenS hesS ⊢
  repeat refine At.seq ?_
  refine At.regionG tab_ok ?_
  conv => whnf
  refine ans_call b31 (r := .b true) rfl (fun w' hw => by
    have := sameLots_c L1 L1 [] [] va vb w' (slL L1 (hw.row (id := 1) rfl) (by omega)) (slL L1 (hw.row (id := 3) rfl) (by omega))
    rw [decide_eq_true (rfl : L1 = L1)] at this
    exact this) ?_
  conv => whnf
  refine ans_call b34 (r := .b true) rfl (fun w' hw => by
    have := sameErrs_c e1 e1 [] [] ve vf w' (slI e1 (hw.row (id := 2) rfl) (by omega)) (slI e1 (hw.row (id := 4) rfl) (by omega))
    rw [decide_eq_true (rfl : e1 = e1)] at this
    exact this) ?_
  conv => whnf
  repeat refine At.seq ?_
  refine At.cond (t := false) rfl (fun hq => by cases hq) (fun hq => At.skip ?_)
  have hgood : ∀ k, Good (leaseF ((pairUp l seen).take k)).1 ∧ (leaseF ((pairUp l seen).take k)).1.length ≤ 4800 := fun k => by
    obtain ⟨a, b, c⟩ := leaseF_good _ ((pairUp l seen).take k) rfl fun x hx => hsp x.1 (pairUp_mem (List.mem_of_mem_take hx))
    have : ((pairUp l seen).take k).length ≤ 20 := by simp [pairUp_len]; omega
    exact ⟨a, by omega⟩
  repeat refine At.seq ?_
  refine At.region tab_ok ?_
  conv => whnf
  repeat refine At.seq ?_
  refine At.region tab_ok ?_
  conv => whnf
  repeat refine At.seq ?_
  refine At.block ?_
  refine At.loopH (fun p : Nat × Value => { N := Try.f13.ntmps, sl := [(0, some (.x v)), (1, some (.x z)), (5, some (.b true)), (12, some (.s (.c (.o 0 p.2)))), (13, some (.i p.1))], gl := [], hp := [(0, .row p.2 58 7 ((leaseF ((pairUp l seen).take p.1)).1.map encL))], S := [], ws := w }) (fun p : Nat × Value => p.1 ≤ l.length) (fun p : Nat × Value => l.length - p.1)
    (fun w' hw => ⟨(0, .slice none 0 0), Nat.zero_le _, Le.of rfl rfl ⟨rfl, rfl, rfl, rfl, rfl, trivial⟩, (hw.keep (st' := { N := 0, sl := [], gl := [], hp := [], S := [], ws := w }) [] rfl rfl rfl).nil rfl rfl rfl, ⟨⟨_, _, _, rfl⟩, trivial⟩, ⟨(nopL _).okH, trivial⟩⟩) ?_
  rintro ⟨k, vl⟩ hk
  simp only at hk ⊢
  repeat refine At.seq ?_
  refine At.region tab_ok ?_
  conv => whnf
  refine ⟨h.sl, ?_⟩
  conv => whnf
  repeat refine At.seq ?_
  refine At.cond rfl (fun hc => At.skip ?_) (fun hc => At.exit ?_)
  · have hltd : k < l.length := by have := of_decide_eq_true hc; (try simp only [List.length_map] at this); omega
    obtain ⟨d, hd⟩ : ∃ x, l[k]? = some x := ⟨_, List.getElem?_eq_getElem hltd⟩
    obtain ⟨hu, hcells⟩ := hU k d hd
    have hd8 := hsp d (List.mem_of_getElem? hd)
    obtain ⟨hg, hlen⟩ := hgood k
    have hst : leaseF ((pairUp l seen).take (k + 1)) = ((leaseDo d (seen.getD k []) (leaseF ((pairUp l seen).take k)).1).1, (leaseF ((pairUp l seen).take k)).2 ++ [(leaseDo d (seen.getD k []) (leaseF ((pairUp l seen).take k)).1).2]) := by
      rw [List.take_add_one, pairUp_get hd]; exact leaseF_snoc _ _
    generalize leaseF ((pairUp l seen).take k) = P at *
    obtain ⟨L, es⟩ := P
    simp only at hg hlen hst ⊢
    obtain ⟨hok1, hok2⟩ := leaseF_ok (seen := seen.getD k []) hg (by omega) hd8
    obtain ⟨_, _, _, hdl, hdr⟩ := good_lease hg d (seen.getD k []) hd8
    repeat refine At.seq ?_
    refine At.block ?_
    repeat refine At.seq ?_
    refine At.region tab_ok ?_
    conv => whnf
    repeat refine At.seq ?_
    refine At.region tab_ok ?_
    conv => whnf
    refine ⟨hz.sl, ?_⟩
    conv => whnf
    repeat refine At.seq ?_
    refine At.join (fun s : Value => { N := Try.f13.ntmps, sl := [(0, some (.x v)), (1, some (.x z)), (5, some (.b true)), (12, some (.s (.c (.o 0 vl)))), (13, some (.i k)), (14, some (.x s))], gl := [], hp := [(0, .row vl 58 7 (L.map encL))], S := [], ws := w }) (fun s : Value => SlOf intT [] w s (seen.getD k [])) ?_ ?_
    · repeat refine At.seq ?_
      refine At.cond rfl (fun hq => ?_) (fun hq => ?_)
      · have hk2 : k < seen.length := by have := of_decide_eq_true hq; omega
        obtain ⟨xs, hxs⟩ : ∃ x, seen[k]? = some x := ⟨_, List.getElem?_eq_getElem hk2⟩
        obtain ⟨_, ⟨s, rfl, hs⟩, hc2⟩ := hz.at hxs
        have e : seen.getD k [] = xs := by rw [List.getD_eq_getElem?_getD, hxs]; rfl
        repeat refine At.seq ?_
        refine At.region tab_ok ?_
        conv => whnf
        refine ⟨by omega, ?_⟩
        conv => whnf
        refine ⟨by omega, ?_⟩
        conv => whnf
        refine ⟨[.x s], fun w' hw => hc2 w' hw.fr, ?_⟩
        conv => whnf
        refine At.meet fun w' hw => ⟨s, by rw [e]; exact hs, Le.of rfl rfl ⟨rfl, rfl, rfl, rfl, rfl, rfl, trivial⟩, hw.keep [0] rfl rfl rfl, ⟨⟨_, _, _, rfl⟩, trivial⟩, ⟨(nopL _).okH, trivial⟩⟩
      · have hk2 : seen.length ≤ k := by have := of_decide_eq_false hq; omega
        have e : seen.getD k [] = [] := by rw [List.getD_eq_getElem?_getD, List.getElem?_eq_none hk2]; rfl
        refine At.skip ?_
        refine At.meet fun w' hw => ⟨.slice none 0 0, by rw [e]; exact nilI w, Le.of rfl rfl ⟨rfl, rfl, rfl, rfl, rfl, rfl, trivial⟩, hw.keep [0] rfl rfl rfl, ⟨⟨_, _, _, rfl⟩, trivial⟩, ⟨(nopL _).okH, trivial⟩⟩
    intro s hs
    generalize seen.getD k [] = sk at *
    repeat refine At.seq ?_
    refine At.region tab_ok ?_
    conv => whnf
    refine ⟨by omega, ?_⟩
    conv => whnf
    refine ⟨by omega, ?_⟩
    conv => whnf
    refine ⟨encD d (U k), fun w' hw => hcells w' hw.fr, ?_⟩
    conv => whnf
    refine ansR_call b48 (rdP (nopL _)) (fun w' hw => leaseDo_c L d sk vl (U k) s w' (slL L (hw.row (id := 0) rfl) (by omega)) (hu.fr hw.fr) (hs.fr hw.fr) (by omega) hd8 hok1 hok2) ?_
    intro v3
    conv => whnf
    generalize leaseDo d sk L = D at *
    obtain ⟨Q, er⟩ := D
    simp only at hst hdl hdr ⊢
    repeat refine At.seq ?_
    refine At.join (fun q : Unit => { N := Try.f13.ntmps, sl := [(0, some (.x v)), (1, some (.x z)), (5, some (.b true)), (13, some (.i k)), (15, some (.s (.c (.o 1 v3)))), (100, some (.b false))], gl := [], hp := [(1, .row v3 58 7 (Q.map encL))], S := [], ws := w }) (fun q : Unit => True) ?_ ?_
    · repeat refine At.seq ?_
      refine At.regionG tab_ok ?_
      conv => whnf
      by_cases her : er = 0
      · rw [decide_eq_true her]
        conv => whnf
        refine At.meet fun w' hw => ⟨(), trivial, Le.of rfl rfl ⟨rfl, rfl, rfl, rfl, rfl, rfl, trivial⟩, hw.keep [1] rfl rfl rfl, ⟨⟨_, _, _, rfl⟩, trivial⟩, ⟨(nopL _).okH, trivial⟩⟩
      · have hQ := hdr her
        subst hQ
        rw [decide_eq_false her]
        conv => whnf
        refine ans_call b31 (r := .b true) rfl (fun w' hw => by
          have := sameLots_c Q Q [] [] v3 vl w' (slL Q (hw.row (id := 1) rfl) (by omega)) (slL Q (hw.row (id := 0) rfl) (by omega))
          rw [decide_eq_true (rfl : Q = Q)] at this
          exact this) ?_
        conv => whnf
        refine At.meet fun w' hw => ⟨(), trivial, Le.of rfl rfl ⟨rfl, rfl, rfl, rfl, rfl, rfl, trivial⟩, hw.keep [1] rfl rfl rfl, ⟨⟨_, _, _, rfl⟩, trivial⟩, ⟨(nopL _).okH, trivial⟩⟩
    intro _ _
    repeat refine At.seq ?_
    refine At.cond (t := false) rfl (fun hq => by cases hq) (fun hq => At.skip ?_)
    repeat refine At.seq ?_
    refine At.region tab_ok ?_
    conv => whnf
    repeat refine At.seq ?_
    refine At.region tab_ok ?_
    conv => whnf
    refine ⟨⟨by omega, by omega⟩, ?_⟩
    conv => whnf
    refine At.nextH fun w' hw => ⟨(k + 1, v3), by simp only; omega, by simp only; omega, Le.of rfl rfl ⟨rfl, rfl, rfl, rfl, rfl, trivial⟩, hw.ren [1] ((by simp only; rw [hst]; rfl)) rfl rfl, ⟨⟨_, _, _, rfl⟩, trivial⟩, ⟨(nopL _).okH, trivial⟩⟩
  have hge : k = l.length := by have := of_decide_eq_false hc; omega
  have hta : (pairUp l seen).take k = pairUp l seen := List.take_of_length_le (by rw [pairUp_len]; omega)
  obtain ⟨hg, hlen⟩ := hgood k
  have hel2 := (leaseF_good _ (pairUp l seen) rfl fun x hx => hsp x.1 (pairUp_mem hx)).2.2
  rw [hta] at hg hlen ⊢
  rw [pairUp_len] at hel2
  repeat refine At.seq ?_
  refine At.region tab_ok ?_
  conv => whnf
  refine ansR_call b44 (rd2 (nopL _) (nopI _)) (fun w' hw => leaseLots_c l seen v z w' (h.fr hw.fr) (hz.fr hw.fr) (by omega) hsp) ?_
  unfold leaseK
  intro vc
  conv => whnf
  intro vh
  conv => whnf
  generalize leaseF (pairUp l seen) = P at *
  obtain ⟨L, es⟩ := P
  simp only at hg hlen hel2 ⊢
  repeat refine At.seq ?_
  refine At.regionG tab_ok ?_
  conv => whnf
  refine ans_call b31 (r := .b true) rfl (fun w' hw => by
    have := sameLots_c L L [] [] vc vl w' (slL L (hw.row (id := 1) rfl) (by omega)) (slL L (hw.row (id := 0) rfl) (by omega))
    rw [decide_eq_true (rfl : L = L)] at this
    exact this) ?_
  conv => whnf
  refine ⟨rfl, ?_⟩
  conv => whnf
  refine ⟨h.sl, ?_⟩
  conv => whnf
  repeat refine At.seq ?_
  refine At.ret (At.doneB tab_ok hB _ rfl fun w' hw => ⟨?_, hw.fr⟩)
  simp [RV.den, SV.den, CV.den, hel2, hl]
end Go.Proofs.Ytjilbkioieicbaa


namespace Go.Proofs.Ytjilbkioieicbaa.leasePlain
open Go.ChangeShapes Go.WideShapes Go.ChangeAt Go.RowKit
set_option linter.unusedVariables false
theorem own : ownKnob Try.prog.godebug = none := by kernel_rfl
set_option maxRecDepth 100000 in
theorem lifted (os : Os) (started : os.Started) (H : Type) (enc : TypeId × Value → H) :
    ReturnsInHanded {} Try.checked os 13 .any (Rows.leasePlainSpec.pre6 enc Try.prog Try.f13 Rows.leasePlainRow.domain false) (Rows.leasePlainSpec.post enc Try.prog Try.f13 false true false false) := by
  refine returnsInHanded_of_change (C := Try.checked) own started (by kernel_rfl) Try.func13
    (ChangeSpec.witness6 (enc := enc) (C := Try.checked) false ⟨#[], #[.slice none 0 0, .slice none 0 0], []⟩ 8 (by kernel_rfl) (by kernel_rfl) (by kernel_rfl) (by kernel_rfl)) ?_
  intro W base args ds gs before hval0 hW hcnd _
  have hval : ∀ (j : Nat) t v, Try.f13.params[j]? = some t → args[j]? = some v → Value.okWide Try.prog W .any base t v := hval0
  have hW' := hW
  obtain ⟨p, q, hA0, hV, rfl, hfz, hnd⟩ := hW
  have hA : DataW.TrodAll enc Try.prog W 0 (fun _ => true) true Try.f13.params.toList args.toList ds p := hA0
  rw [Try.params13] at hA hval
  obtain ⟨v0, vs0, d0, ds0, p0, q0, hargs, rfl, rfl, h0, r0⟩ := trodAll_cons hA
  obtain ⟨v1, vs1, d1, ds1, p1, q1, rfl, rfl, rfl, h1, r1⟩ := trodAll_cons r0
  obtain ⟨rfl, rfl, rfl⟩ := trodAll_nil r1
  obtain rfl : args = #[v0, v1] := by cases args; simp_all
  obtain ⟨rfl, rfl⟩ := trodVars_none hV
  have k0 := h0
  have lt0 : ∀ x ∈ p0, x.block < W.heap.size := fun x hx => hW'.lt x (by simp [hx])
  obtain ⟨l0, s0⟩ := deeds_open (okWide_slice u45 (hval 0 45 v0 rfl rfl)) h0
  have k1 := h1
  have lt1 : ∀ x ∈ p1, x.block < W.heap.size := fun x hx => hW'.lt x (by simp [hx])
  obtain ⟨l1, s1⟩ := seen_open (okWide_slice u73 (hval 1 73 v1 rfl rfl)) h1
  clear hA0 hval0
  simp only [List.append_nil] at hW'
  refine (leasePlain_c l0 l1 v0 v1 W s0 s1).mono fun e W' ⟨he, hx⟩ => ?_
  subst he
  exact ⟨_, rfl, _, _, _, [], _, [], hW', trodAll_cons_mk (shut_bool u4 _) trodAll_mk0, (trodAll_cons_mk (Below.trod laid (by kernel_rfl) (of_decide_eq_true (by kernel_rfl)) k0 hx.below lt0) (trodAll_cons_mk (Below.trod laid (by kernel_rfl) (of_decide_eq_true (by kernel_rfl)) k1 hx.below lt1) trodAll_mk0)), rfl, hx.below.frame _, fun h => by cases h⟩

theorem over : Rows.leasePlainRow.holds Try.pinned (OpenSpec.ofChange Rows.leasePlainSpec) :=
  OpenClaim.holds_of_wide 13 Try.f13 rfl rfl rfl rfl rfl rfl rfl ⟨rfl, rfl, rfl, rfl, rfl⟩ rfl rfl rfl rfl rfl (by kernel_rfl) Try.func13 (by kernel_rfl)
    (of_decide_eq_true (by kernel_rfl)) (by unfold Func.isWrapper; first | (rw [if_pos (by decide +kernel)]; kernel_rfl) | (rw [if_neg (by decide +kernel)]; exact ⟨rfl, rfl⟩))
    (fun os started H enc _ => lifted os started H enc)

/-- The statement. -/
theorem proved : Rows.LeasePlainSaid :=
  over
#print axioms proved
end Go.Proofs.Ytjilbkioieicbaa.leasePlain

