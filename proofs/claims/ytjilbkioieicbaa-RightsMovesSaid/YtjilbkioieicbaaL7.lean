/- The law RightsRefused (stokvellaw27): what the call computes. -/
import Derived.Test.YtjilbkioieicbaaS2
import Derived.Test.YtjilbkioieicbaaL0
namespace Go.Proofs.Ytjilbkioieicbaa
open Go.Vc Rt
set_option linter.unusedVariables false
set_option linter.unusedSimpArgs false
theorem few_spec {l : List Deed} {n : Int} (h : few l n = true) : (l.length : Int) ≤ n ∧ ∀ d ∈ l, d.spans.length ≤ 8 := by
  unfold few at h
  simp at h
  exact h
/-- The slices of the deeds' spans. -/
theorem slices_of {w : World} {v : Value} {l : List Deed} (h : SlOf deT [] w v l) : ∃ U : Nat → Value, ∀ i d, l[i]? = some d → SlOf spT [] w (U i) d.spans ∧ ∀ w', Fr [] w w' → ECells w' v 7 i 0 (encD d (U i)) := by
  have key : ∀ i : Nat, ∃ u, ∀ d, l[i]? = some d → SlOf spT [] w u d.spans ∧ ∀ w', Fr [] w w' → ECells w' v 7 i 0 (encD d u) := by
    intro i
    cases hd : l[i]? with
    | none => exact ⟨.slice none 0 0, fun d h => by cases h⟩
    | some d =>
      obtain ⟨_, ⟨u, rfl, hu⟩, hc⟩ := h.at hd
      exact ⟨u, fun d' h' => by cases h'; exact ⟨hu, hc⟩⟩
  exact ⟨fun i => Classical.choose (key i), fun i d hd => Classical.choose_spec (key i) d hd⟩
/-- The deeds without error among the first ones, as they lie. -/
def okRows (l : List Deed) (es : List Int) (U : Nat → Value) : Nat → List (List CV)
  | 0 => []
  | k + 1 => okRows l es U k ++ (match l[k]?, es[k]? with | some d, some e => if e = 0 then [encD d (U k)] else [] | _, _ => [])
def okList (l : List Deed) (es : List Int) : Nat → List Deed
  | 0 => []
  | k + 1 => okList l es k ++ (match l[k]?, es[k]? with | some d, some e => if e = 0 then [d] else [] | _, _ => [])
theorem okList_eq {l : List Deed} {es : List Int} (hl : l.length = es.length) : ∀ k, k ≤ l.length → okList l es k = okDeeds (l.take k) (es.take k)
  | 0, _ => by simp [okList, okDeeds]
  | k + 1, hk => by
    have hd : l[k]? = some l[k] := List.getElem?_eq_getElem (by omega)
    have he : es[k]? = some es[k] := List.getElem?_eq_getElem (by omega)
    rw [List.take_add_one, List.take_add_one, hd, he]
    simp only [Option.toList_some]
    rw [okDeeds_snoc (by simp; omega), ← okList_eq hl k (by omega)]
    simp only [okList, hd, he]
theorem okRows_nop {l : List Deed} {es : List Int} {U : Nat → Value} : ∀ k, NoP (okRows l es U k)
  | 0 => fun l hl => by cases hl
  | k + 1 => fun r hr c hc => by
    simp only [okRows, List.mem_append] at hr
    rcases hr with hr | hr
    · exact okRows_nop k r hr c hc
    · split at hr
      · split at hr
        · simp at hr; subst hr
          simp [encD] at hc
          rcases hc with rfl | rfl | rfl | rfl | rfl | rfl | rfl <;> rfl
        · cases hr
      · cases hr
theorem okRows_len {l : List Deed} {es : List Int} {U : Nat → Value} : ∀ k, (okRows l es U k).length ≤ k ∧ (okRows l es U k).length = (okList l es k).length
  | 0 => by simp [okRows, okList]
  | k + 1 => by
    have ih := okRows_len (l := l) (es := es) (U := U) k
    simp only [okRows, okList, List.length_append]
    split
    · split <;> simp <;> omega
    · simp; omega
theorem relAll_append {α : Type} {T : Ty α} {S : List Nat} {w : World} : ∀ {xs ys : List α} {L M : List (List CV)}, relAll T S w xs L → relAll T S w ys M → relAll T S w (xs ++ ys) (L ++ M)
  | [], ys, [], M, _, h => h
  | x :: xs, ys, l :: L, M, h1, h2 => ⟨h1.1, relAll_append h1.2 h2⟩
  | [], _, _ :: _, _, h, _ => h.elim
  | _ :: _, _, [], _, h, _ => h.elim
theorem okRows_rel {l : List Deed} {es : List Int} {U : Nat → Value} {w w' : World} (hU : ∀ i d, l[i]? = some d → SlOf spT [] w (U i) d.spans) (hf : Ext w w') : ∀ k, relAll deT [] w' (okList l es k) (okRows l es U k)
  | 0 => trivial
  | k + 1 => by
    simp only [okRows, okList]
    refine relAll_append (okRows_rel hU hf k) ?_
    cases hd : l[k]? with
    | none => trivial
    | some d =>
      cases he : es[k]? with
      | none => trivial
      | some e =>
        simp only
        by_cases h0 : e = 0
        · rw [if_pos h0, if_pos h0]
          exact ⟨⟨encD d (U k), rfl, U k, rfl, (hU k d hd).fr hf⟩, trivial⟩
        · rw [if_neg h0, if_neg h0]; trivial
theorem refused_c (l : List Deed) (v : Value) (w : World) (h : SlOf deT [] w v l) : Ans Try.prog 7 [v] (.b true) w := by
  have hl := h.len
  have hsm := h.small
  obtain ⟨U, hU⟩ := slices_of h
  refine calls_plainB [.x v] Try.func7 rfl rfl (Nat.le_of_ble_eq_true rfl) rfl fun B hB => ?_
  repeat refine At.seq ?_
  refine At.region tab_ok ?_
  conv => whnf
  repeat refine At.seq ?_
  refine At.region tab_ok ?_
  conv => whnf
  refine ans_call b24 rfl (fun w' hw => small27_c w') ?_
  conv => whnf
  repeat refine At.seq ?_
  refine At.region tab_ok ?_
  conv => whnf
  refine ans_call b25 rfl (fun w' hw => few_c l 16 [] v w' (h.fr hw.fr)) ?_
  conv => whnf
  repeat refine At.seq ?_
  refine At.cond rfl (fun hq => ?_) (fun hq => ?_)
  · repeat refine At.seq ?_
    refine At.region tab_ok ?_
    conv => whnf
    repeat refine At.seq ?_
    refine At.ret (At.doneB tab_ok hB _ rfl fun w' hw => ⟨rfl, hw.fr⟩)
  · have hfew : few l 16 = true := by simpa using hq
    obtain ⟨hn, hsp⟩ := few_spec hfew
    have hn : l.length ≤ 16 := by omega
    have hes := lotsK_errs l
    obtain ⟨law1, law2⟩ := refused_law _ l rfl hsp
    refine At.skip ?_
    repeat refine At.seq ?_
    refine At.region tab_ok ?_
    conv => whnf
    refine ansR_call b26 (rd2 (nopL _) (nopI _)) (fun w' hw => lots_c l [] v w' (h.fr hw.fr) (by omega) (lots_ok hsp (by omega))) ?_
    intro va
    conv => whnf
    intro ve
    conv => whnf
    generalize hLE : lotsK l = q at *
    obtain ⟨L, es⟩ := q
    simp only at hes law1 law2 ⊢
    repeat refine At.seq ?_
    refine At.region tab_ok ?_
    conv => whnf
    refine ⟨rfl, ?_⟩
    conv => whnf
    refine ⟨h.sl, ?_⟩
    conv => whnf
    repeat refine At.seq ?_
    refine At.cond rfl (fun hq => ?_) (fun hq => At.skip ?_)
    · rw [hl] at hq; simp at hq; omega
    repeat refine At.seq ?_
    refine At.region tab_ok ?_
    conv => whnf
    repeat refine At.seq ?_
    refine At.region tab_ok ?_
    conv => whnf
    repeat refine At.seq ?_
    refine At.block ?_
    refine At.loopH (fun p : Nat × Value => { N := Try.f7.ntmps, sl := [(0, some (.x v)), (3, some (.b true)), (4, some (.s (.c (.o 0 va)))), (5, some (.s (.c (.o 1 ve)))), (6, some (.s (.c (.o 2 p.2)))), (7, some (.i p.1))], gl := [], hp := [(2, .row p.2 54 7 (okRows l es U p.1)), (1, .row ve 30 1 (es.map encI)), (0, .row va 58 7 (L.map encL))], S := [], ws := w }) (fun p => p.1 ≤ l.length) (fun p => l.length - p.1)
      (fun w' hw => ⟨(0, .slice none 0 0), Nat.zero_le _, Le.of rfl rfl ⟨rfl, rfl, rfl, rfl, rfl, rfl, trivial⟩, hw.nil rfl rfl rfl, ⟨⟨_, _, _, rfl⟩, ⟨_, _, _, rfl⟩, ⟨_, _, _, rfl⟩, trivial⟩, ⟨(okRows_nop _).okH, (nopI _).okH, (nopL _).okH, trivial⟩⟩) ?_
    rintro ⟨k, vs⟩ hk
    simp only at hk ⊢
    repeat refine At.seq ?_
    refine At.region tab_ok ?_
    conv => whnf
    refine ⟨h.sl, ?_⟩
    conv => whnf
    repeat refine At.seq ?_
    refine At.cond rfl (fun hc => At.skip ?_) (fun hc => At.exit ?_)
    · have hlt : k < l.length := by have := of_decide_eq_true hc; omega
      obtain ⟨d, hd⟩ : ∃ d, l[k]? = some d := ⟨_, List.getElem?_eq_getElem hlt⟩
      obtain ⟨e, he⟩ : ∃ e, es[k]? = some e := ⟨_, List.getElem?_eq_getElem (by omega)⟩
      obtain ⟨hu, hcells⟩ := hU k d hd
      have hrl := (okRows_len (l := l) (es := es) (U := U) k).1
      have hrn : okRows l es U (k + 1) = okRows l es U k ++ (if e = 0 then [encD d (U k)] else []) := by simp only [okRows, hd, he]
      generalize okRows l es U k = R at *
      repeat refine At.seq ?_
      refine At.block ?_
      repeat refine At.seq ?_
      refine At.region tab_ok ?_
      conv => whnf
      refine ⟨rfl, ?_⟩
      conv => whnf
      refine ⟨by omega, ?_⟩
      conv => whnf
      refine ⟨by simp; omega, ?_⟩
      conv => whnf
      refine ⟨encI e, ⟨rfl, rfl, by omega, by rw [Int.toNat_natCast, List.getElem?_map, he]; rfl⟩, ?_⟩
      conv => whnf
      repeat refine At.seq ?_
      refine At.cond rfl (fun hq => ?_) (fun hq => ?_)
      · have he0 : e = 0 := of_decide_eq_true hq
        repeat refine At.seq ?_
        refine At.region tab_ok ?_
        conv => whnf
        refine ⟨by omega, ?_⟩
        conv => whnf
        refine ⟨by omega, ?_⟩
        conv => whnf
        refine ⟨encD d (U k), fun w' hw => hcells w' hw.fr, ?_⟩
        conv => whnf
        refine ⟨hu.sl.one, ?_⟩
        conv => whnf
        intro v1
        conv => whnf
        refine ⟨rfl, ?_⟩
        conv => whnf
        refine ⟨hu.sl.one, ?_⟩
        conv => whnf
        refine ⟨⟨rfl, by simp; omega⟩, ?_⟩
        conv => whnf
        intro v2
        conv => whnf
        repeat refine At.seq ?_
        refine At.region tab_ok ?_
        conv => whnf
        refine ⟨⟨by omega, by omega⟩, ?_⟩
        conv => whnf
        refine At.nextH fun w' hw => ⟨(k + 1, v2), by simp only; omega, by simp only; omega, Le.of rfl rfl ⟨rfl, rfl, rfl, rfl, rfl, rfl, trivial⟩, hw.keep [2, 1, 0] ?_ rfl rfl, ⟨⟨_, _, _, rfl⟩, ⟨_, _, _, rfl⟩, ⟨_, _, _, rfl⟩, trivial⟩, ⟨(okRows_nop _).okH, (nopI _).okH, (nopL _).okH, trivial⟩⟩
        show [(2, LO.row v2 54 7 _), (1, LO.row ve 30 1 _), (0, LO.row va 58 7 _)] = [(2, LO.row v2 54 7 _), (1, LO.row ve 30 1 _), (0, LO.row va 58 7 _)]
        rw [hrn, if_pos he0]
        rfl
      · have he0 : ¬ e = 0 := of_decide_eq_false hq
        refine At.skip ?_
        repeat refine At.seq ?_
        refine At.region tab_ok ?_
        conv => whnf
        refine ⟨⟨by omega, by omega⟩, ?_⟩
        conv => whnf
        refine At.nextH fun w' hw => ⟨(k + 1, vs), by simp only; omega, by simp only; omega, Le.of rfl rfl ⟨rfl, rfl, rfl, rfl, rfl, rfl, trivial⟩, hw.keep [2, 1, 0] ?_ rfl rfl, ⟨⟨_, _, _, rfl⟩, ⟨_, _, _, rfl⟩, ⟨_, _, _, rfl⟩, trivial⟩, ⟨(okRows_nop _).okH, (nopI _).okH, (nopL _).okH, trivial⟩⟩
        show [(2, LO.row vs 54 7 _), (1, LO.row ve 30 1 _), (0, LO.row va 58 7 _)] = [(2, LO.row vs 54 7 _), (1, LO.row ve 30 1 _), (0, LO.row va 58 7 _)]
        rw [hrn, if_neg he0, List.append_nil]
    · have hge : k = l.length := by have := of_decide_eq_false hc; omega
      subst hge
      have hok : okList l es l.length = okDeeds l es := by rw [okList_eq hes.symm _ (Nat.le_refl _), List.take_length, ← hes, List.take_length]
      have hrl := okRows_len (l := l) (es := es) (U := U) l.length
      have hrel := fun w' hf => okRows_rel (es := es) (w := w) (w' := w') (fun i d hd => (hU i d hd).1) hf l.length
      have hnp := okRows_nop (l := l) (es := es) (U := U) l.length
      have hmem := okDeeds_mem (l := l) (es := es)
      rw [hok] at hrl hrel
      generalize okRows l es U l.length = R at *
      generalize okDeeds l es = S at *
      have hes2 := lotsK_errs S
      repeat refine At.seq ?_
      refine At.region tab_ok ?_
      conv => whnf
      refine ansR_call b26 (rd2 (nopL _) (nopI _)) (fun w' hw => lots_c S [] vs w' (SlOf.of_rows (hw.row (id := 2) rfl) (fun _ _ => nilS) (by omega) (hrel w' hw.fr)) (by omega) (lots_ok (fun d hd => hsp d (hmem d hd)) (by omega))) ?_
      intro vb
      conv => whnf
      intro vf
      conv => whnf
      generalize hLE2 : lotsK S = q2 at *
      obtain ⟨L2, es2⟩ := q2
      simp only at hes2 law1 law2 ⊢
      subst law1
      repeat refine At.seq ?_
      refine At.region tab_ok ?_
      conv => whnf
      repeat refine At.seq ?_
      refine At.block ?_
      refine At.loopH (fun k : Nat => { N := Try.f7.ntmps, sl := [(3, some (.b true)), (4, some (.s (.c (.o 0 va)))), (6, some (.s (.c (.o 2 vs)))), (8, some (.s (.c (.o 3 vb)))), (9, some (.s (.c (.o 4 vf)))), (10, some (.i k))], gl := [], hp := [(4, .row vf 30 1 (es2.map encI)), (3, .row vb 58 7 (L2.map encL)), (2, .row vs 54 7 R), (1, .row ve 30 1 (es.map encI)), (0, .row va 58 7 (L2.map encL))], S := [], ws := w }) (fun k => k ≤ es2.length) (fun k => es2.length - k)
        (fun w' hw => ⟨0, Nat.zero_le _, Le.of rfl rfl ⟨rfl, rfl, rfl, rfl, rfl, rfl, trivial⟩, hw.same rfl rfl rfl, ⟨⟨_, _, _, rfl⟩, ⟨_, _, _, rfl⟩, ⟨_, _, _, rfl⟩, ⟨_, _, _, rfl⟩, trivial⟩, ⟨(nopI _).okH, (nopL _).okH, hnp.okH, (nopI _).okH, (nopL _).okH, trivial⟩⟩) ?_
      intro k hk
      repeat refine At.seq ?_
      refine At.region tab_ok ?_
      conv => whnf
      refine ⟨rfl, ?_⟩
      conv => whnf
      repeat refine At.seq ?_
      refine At.cond rfl (fun hc => At.skip ?_) (fun hc => At.exit ?_)
      · have hlt : k < es2.length := by have := of_decide_eq_true hc; simp at this; omega
        obtain ⟨e, he⟩ : ∃ e, es2[k]? = some e := ⟨_, List.getElem?_eq_getElem hlt⟩
        have he0 := law2 e (List.mem_of_getElem? he)
        subst he0
        repeat refine At.seq ?_
        refine At.block ?_
        repeat refine At.seq ?_
        refine At.region tab_ok ?_
        conv => whnf
        refine ⟨rfl, ?_⟩
        conv => whnf
        refine ⟨by omega, ?_⟩
        conv => whnf
        refine ⟨by simp; omega, ?_⟩
        conv => whnf
        refine ⟨encI 0, ⟨rfl, rfl, by omega, by rw [Int.toNat_natCast, List.getElem?_map, he]; rfl⟩, ?_⟩
        conv => whnf
        repeat refine At.seq ?_
        refine At.cond rfl (fun hq => ?_) (fun hq => ?_)
        · simp at hq
        · refine At.skip ?_
          repeat refine At.seq ?_
          refine At.region tab_ok ?_
          conv => whnf
          refine ⟨⟨by omega, by omega⟩, ?_⟩
          conv => whnf
          exact At.nextH fun w' hw => ⟨k + 1, by omega, by omega, Le.of rfl rfl ⟨rfl, rfl, rfl, rfl, rfl, rfl, trivial⟩, hw.keep [4, 3, 2, 1, 0] rfl rfl rfl, ⟨⟨_, _, _, rfl⟩, ⟨_, _, _, rfl⟩, ⟨_, _, _, rfl⟩, ⟨_, _, _, rfl⟩, trivial⟩, ⟨(nopI _).okH, (nopL _).okH, hnp.okH, (nopI _).okH, (nopL _).okH, trivial⟩⟩
      · have hL2 : L2.length ≤ 1000000 := by
          have := (lotsK_keeps _ S rfl (fun d hd => hsp d (hmem d hd))).2.2
          rw [hLE2] at this; simp only at this; omega
        repeat refine At.seq ?_
        refine At.region tab_ok ?_
        conv => whnf
        refine ⟨by simp only [gimp]; intro _; trivial, ?_⟩
        conv => whnf
        refine ⟨by simp only [gimp]; intro _; trivial, ?_⟩
        conv => whnf
        refine ⟨.b true, by simp only [gimp]; intro _; exact ans_quiet b31 (fun w' hw => by
            have := sameLots_c L2 L2 [] [] va vb w' (slL L2 (hw.row (id := 0) rfl) hL2) (slL L2 (hw.row (id := 3) rfl) hL2)
            rw [decide_eq_true (rfl : L2 = L2)] at this
            exact this), ?_⟩
        conv => whnf
        repeat refine At.seq ?_
        refine At.ret (At.doneB tab_ok hB _ rfl fun w' hw => ⟨?_, hw.fr⟩)
        have e : (List.map encI es2).length = R.length := by simp; omega
        simp [RV.den, SV.den, CV.den, e]
end Go.Proofs.Ytjilbkioieicbaa
