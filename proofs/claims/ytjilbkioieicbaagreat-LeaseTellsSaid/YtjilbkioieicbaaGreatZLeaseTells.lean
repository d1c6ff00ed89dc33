/- The law LeaseTells: for every input the call returns true and the arguments read as before; no condition. -/
import Derived.Test.YtjilbkioieicbaaGreatMA
import Derived.Test.YtjilbkioieicbaaGreatMF
import Derived.Test.YtjilbkioieicbaaGreatMC
import Derived.Test.YtjilbkioieicbaaGreatME
import Derived.Test.YtjilbkioieicbaaGreatRows
import Derived.WalkKit
import Derived.ProofKit
import Derived.OpenShut
import Derived.Carry
/- The law LeaseTells: its call. -/
namespace Go.Vc
/-- A call that returns an own row, or fresh data, and a number. -/
theorem either_call {P : Program} {f : FuncId} {args : List Value} {st : St} {d : Option Nat} {K : St → Prop} {α : Type} {T : Ty α} {xs : List α} {n : Int} {id : Nat} {v : Value} {E size : Nat} {L : List (List CV)} {Q : Prop} (hb : Body P f) (hl : look st.hp id = some (.row v E size L))
    (h : ∀ w, Holds st w → Calls P f args.toArray w (fun e w' => ∃ r, e = .returned (RV.tup [.c (.x r), .c (.i n)]).den ∧ Ext w w' ∧ ((r = v ∧ Q) ∨ SlOf T st.blks w' r xs)))
    (hk1 : Q → goPut st d (.tup [.c (.o id v), .c (.i n)]) K) (hk2 : ∀ r w w', Holds st w → Ext w w' → SlOf T st.blks w' r xs → goPut (st.snap w') d (.tup [.c (.x r), .c (.i n)]) K) : UCall P st f args d K :=
  .inl ⟨hb, fun hwf w hw => (h w hw).mono fun e w' ⟨r, he, hx, hor⟩ => by
    rcases hor with ⟨rfl, hq⟩ | hs
    · exact ⟨.tup [.c (.o id r), .c (.i n)], st, he, ⟨rfl, rfl, rfl, rfl⟩, hwf, fun x hm => by
        rcases List.mem_cons.1 hm with rfl | hm
        · exact ownsAt_slice (hw.row hl).1
        · rw [List.mem_singleton.1 hm]; trivial, hw.ext hx, hk1 hq⟩
    · exact ⟨.tup [.c (.x r), .c (.i n)], st.snap w', he, snap_same, hwf.snap, noPr_ok rfl, hw.snap hx, hk2 r w w' hw hx hs⟩⟩
/-- Back to the old snapshot. -/
theorem Holds.back {st sc st' : St} {w2 w3 w' : World} (h2 : Holds st w2) (hS : st.S = []) (hx : Ext w2 w3) (hc : Holds sc w') (hcS : sc.S = st.blks) (hcw : sc.ws = w3) (h1 : st'.hp = sc.hp) (hS' : st'.S = []) (hw' : st'.ws = st.ws) (hb : ∀ b ∈ st'.blks, b ∈ st.blks) : Holds st' w' := by
  have hfr : ∀ b ∈ st.blks, st.ws.heap.size ≤ b := fun b hb => (h2.own b hb).elim (fun h => by rw [hS] at h; cases h) id
  have h2f := h2.fr
  rw [hS] at h2f
  have hcf := hc.fr
  rw [hcS, hcw] at hcf
  exact ⟨fun o ho => hc.objs o (by rw [← h1]; exact ho), by have := hc.nodup; unfold St.blks at this ⊢; rw [h1]; exact this, by rw [hS', hw']; exact Fr.over1 (h2f.trans hx) hcf hfr, fun b hb' => .inr (by rw [hw']; exact hfr b (hb b hb'))⟩
end Go.Vc
namespace Go.Proofs.YtjilbkioieicbaaGreat
open Go.Vc Rt
set_option linter.unusedVariables false
set_option linter.unusedSimpArgs false
set_option maxHeartbeats 4000000 in
theorem leaseTells_c (l : List Deed) (seen : List (List Int)) (x : Lot) (key day n : Int) (v z : Value) (w : World) (h : SlOf deT [] w v l) (hz : SlOf seT [] w z seen) : Ans Tryz.prog 3 [v, z, vL x, vI key, vI day, vI n] (.b true) w := by
  have hl := h.len
  have hsm := h.small
  have hzl := hz.len
  refine calls_plainB [.x v, .x z, .s (.agg (encL x)), .i key, .i day, .i n] Tryz.func3 rfl rfl (Nat.le_of_ble_eq_true rfl) rfl fun B hB => ?_
  repeat refine At.seq ?_
  refine At.region tab_ok ?_
  conv => whnf
  intro b8
  conv => whnf
  repeat refine At.seq ?_
  refine At.region tab_ok ?_
  conv => whnf
  refine ans_call b42 rfl (fun w' hw => small28_c w') ?_
  conv => whnf
  repeat refine At.seq ?_
  refine At.region tab_ok ?_
  conv => whnf
  refine ans_call b25 rfl (fun w' hw => few_c l 20 [] v w' (h.fr hw.fr)) ?_
  conv => whnf
  refine ⟨.b (few28 seen), by simp only [gimp]; intro _; exact ans_quiet b43 (fun w' hw => few28_c seen z w' (hz.fr hw.fr)), ?_⟩
  conv => whnf
  repeat refine At.seq ?_
  refine At.cond rfl (fun hq => ?_) (fun hq => ?_)
  · repeat refine At.seq ?_
    refine At.region tab_ok ?_
    conv => whnf
    repeat refine At.seq ?_
    refine At.ret (At.doneB tab_ok hB _ rfl fun w' hw => ⟨rfl, hw.fr⟩)
  have hq' : few l 20 = true ∧ few28 seen = true := by
    simp only [bor, Bool.or_eq_false_iff, Bool.not_eq_false'] at hq; exact hq
  obtain ⟨hn, hsp⟩ := few_spec hq'.1
  have hn : l.length ≤ 20 := by omega
  obtain ⟨hs20, _⟩ := few28_spec hq'.2
  refine At.skip ?_
  obtain ⟨hgood, hlk, hel⟩ := leaseF_good _ (pairUp l seen) rfl (fun x hx => hsp x.1 (pairUp_mem hx))
  have hpl := pairUp_len l seen
  rw [hpl] at hlk hel
  repeat refine At.seq ?_
  refine At.region tab_ok ?_
  conv => whnf
  refine ansR_call b44 (rd2 (nopL _) (nopI _)) (fun w' hw => leaseLots_c l seen v z w' (h.fr hw.fr) (hz.fr hw.fr) (by omega) hsp) ?_
  intro va
  conv => whnf
  intro ve
  conv => whnf
  repeat refine At.seq ?_
  refine At.region tab_ok ?_
  conv => whnf
  refine ansR_call bz8 (rd2 (nopL _) (nopI _)) (fun w' hw => lots28_c l seen v z w' (h.fr hw.fr) (hz.fr hw.fr) (by omega) hsp) ?_
  intro vb
  conv => whnf
  intro vf
  conv => whnf
  obtain ⟨A, hA⟩ : ∃ A, (leaseK l seen).1 = A := ⟨_, rfl⟩
  obtain ⟨E, hE⟩ : ∃ E, (leaseK l seen).2 = E := ⟨_, rfl⟩
  rw [hA, hE]
  have hgA : Good A := by rw [← hA]; exact hgood
  have hAl : A.length ≤ 960 := by rw [← hA]; unfold leaseK; omega
  have hEl : E.length ≤ 20 := by rw [← hE]; unfold leaseK; omega
  repeat refine At.seq ?_
  refine At.region tab_ok ?_
  conv => whnf
  repeat refine At.seq ?_
  refine At.region tab_ok ?_
  conv => whnf
  refine ⟨hz.sl, ?_⟩
  conv => whnf
  rw [hzl]
  conv => whnf
  repeat refine At.seq ?_
  refine At.join (fun s : Value => { N := Tryz.f3.ntmps, sl := [(0, some (.x v)), (3, some (.i key)), (4, some (.i day)), (5, some (.i n)), (8, some (.s (.c (.p 0 b8 0)))), (13, some (.b true)), (14, some (.s (.c (.o 1 va)))), (15, some (.s (.c (.o 2 ve)))), (16, some (.s (.c (.o 3 vb)))), (17, some (.s (.c (.o 4 vf)))), (18, some (.x s))], gl := [], hp := [(4, .row vf 38 1 (E.map encI)), (3, .row vb 27 7 (A.map encL)), (2, .row ve 38 1 (E.map encI)), (1, .row va 27 7 (A.map encL)), (0, .box b8 27 (encL x))], S := [], ws := w }) (fun s : Value => SlOf intT [] w s (seen.getD 0 [])) ?_ ?_
  · repeat refine At.seq ?_
    refine At.cond rfl (fun hq => ?_) (fun hq => ?_)
    · have hks : 0 < seen.length := by have := of_decide_eq_true hq; omega
      obtain ⟨y, hy⟩ : ∃ y, seen[0]? = some y := ⟨_, List.getElem?_eq_getElem hks⟩
      obtain ⟨_, ⟨s, rfl, hs⟩, hsc⟩ := hz.at hy
      have e : seen.getD 0 [] = y := by rw [List.getD_eq_getElem?_getD, hy]; rfl
      repeat refine At.seq ?_
      refine At.region tab_ok ?_
      conv => whnf
      refine ⟨by omega, ?_⟩
      conv => whnf
      refine ⟨by omega, ?_⟩
      conv => whnf
      refine ⟨[.x s], fun w' hw => hsc w' hw.fr, ?_⟩
      conv => whnf
      refine At.meet fun w' hw => ⟨s, by rw [e]; exact hs, Le.of rfl rfl ⟨rfl, rfl, rfl, rfl, rfl, rfl, rfl, rfl, rfl, rfl, rfl, trivial⟩, hw.keep [4, 3, 2, 1, 0] rfl rfl rfl, ⟨⟨_, _, rfl⟩, ⟨_, _, _, rfl⟩, ⟨_, _, _, rfl⟩, ⟨_, _, _, rfl⟩, ⟨_, _, _, rfl⟩, trivial⟩, ⟨(nopI _).okH, (nopL _).okH, (nopI _).okH, (nopL _).okH, trivial⟩⟩
    · have hks : seen.length ≤ 0 := by have := of_decide_eq_false hq; omega
      have e : seen.getD 0 [] = [] := by rw [List.getD_eq_getElem?_getD, List.getElem?_eq_none hks]; rfl
      refine At.skip ?_
      refine At.meet fun w' hw => ⟨(.slice none 0 0), by rw [e]; exact nilI w, Le.of rfl rfl ⟨rfl, rfl, rfl, rfl, rfl, rfl, rfl, rfl, rfl, rfl, rfl, trivial⟩, hw.keep [4, 3, 2, 1, 0] rfl rfl rfl, ⟨⟨_, _, rfl⟩, ⟨_, _, _, rfl⟩, ⟨_, _, _, rfl⟩, ⟨_, _, _, rfl⟩, ⟨_, _, _, rfl⟩, trivial⟩, ⟨(nopI _).okH, (nopL _).okH, (nopI _).okH, (nopL _).okH, trivial⟩⟩
  intro s hs
  obtain ⟨sn, hsn⟩ : ∃ sn, seen.getD 0 [] = sn := ⟨_, rfl⟩
  rw [hsn] at hs
  obtain ⟨M, hM⟩ : ∃ M, mayU x key day n = M := ⟨_, rfl⟩
  repeat refine At.seq ?_
  refine At.planG tab_ok mixed [(4, .row vf 38 1 (E.map encI)), (3, .row vb 27 7 (A.map encL)), (2, .row ve 38 1 (E.map encI)), (1, .row va 27 7 (A.map encL)), (0, .box b8 27 (encL x))] (.take 0 (.take 1 (.br 2 (.take 3 (.take 4 (.take 5 (.take 6 (.br 7 (.take 8 (.take 9 (.take 10 (.take 11 (.take 12 (.take 13 (.take 14 (.take 16 (.take 17 (.take 18 (.take 19 (.br 15 (.br 20 (.take 21 (.take 22 (.done))) (.nob)) (.nob))))))))))))) (.nob)))))) (.nob)))) (by kernel_rfl) (by kernel_rfl) ⟨rfl, rfl, rfl, rfl, rfl, trivial⟩ ?_
  conv => whnf
  refine ⟨?_, trivial⟩
  conv => whnf
  refine ans_call b31 (r := .b true) rfl (fun w' hw => by
    have := sameLots_c A A [] [] va vb w' (slL A (hw.row (id := 1) rfl) (by omega)) (slL A (hw.row (id := 3) rfl) (by omega))
    rw [decide_eq_true (rfl : A = A)] at this
    exact this) ?_
  conv => whnf
  refine ⟨⟨⟨rfl, rfl, rfl, rfl, rfl, trivial⟩, fun w' hw => hw.fr⟩, ?_⟩
  conv => whnf
  refine ⟨?_, trivial⟩
  conv => whnf
  refine ans_call b34 (r := .b true) rfl (fun w' hw => by
    have := sameErrs_c E E [] [] ve vf w' (slI E (hw.row (id := 2) rfl) (by omega)) (slI E (hw.row (id := 4) rfl) (by omega))
    rw [decide_eq_true (rfl : E = E)] at this
    exact this) ?_
  conv => whnf
  refine ⟨⟨⟨rfl, rfl, rfl, rfl, rfl, trivial⟩, fun w' hw => hw.fr⟩, ?_⟩
  conv => whnf
  refine ⟨?_, trivial⟩
  conv => whnf
  refine ans_call b78 (r := .i M) rfl (fun w' hw => by rw [← hM]; exact mayU_c x key day n w') ?_
  conv => whnf
  refine ⟨⟨⟨rfl, rfl, rfl, rfl, rfl, trivial⟩, fun w' hw => hw.fr⟩, ?_⟩
  conv => whnf
  refine ⟨?_, trivial⟩
  conv => whnf
  refine ans_call bz12 (r := .i M) rfl (fun w' hw => by rw [← hM]; exact mayR_c x key day n w') ?_
  conv => whnf
  refine ⟨⟨⟨rfl, rfl, rfl, rfl, rfl, trivial⟩, fun w' hw => hw.fr⟩, ?_⟩
  conv => whnf
  repeat refine At.seq ?_
  refine At.cond rfl (fun hq => ?_) (fun hq => ?_)
  · simp at hq
  refine At.skip ?_
  repeat refine At.seq ?_
  refine At.region tab_ok ?_
  conv => whnf
  repeat refine At.seq ?_
  refine At.block ?_
  refine At.loopH (fun p : Nat × World => { N := Tryz.f3.ntmps, sl := [(0, some (.x v)), (3, some (.i key)), (4, some (.i day)), (13, some (.b true)), (14, some (.s (.c (.o 1 va)))), (16, some (.s (.c (.o 3 vb)))), (18, some (.x s)), (19, some (.i p.1))], gl := [], hp := [(3, .row vb 27 7 (A.map encL)), (1, .row va 27 7 (A.map encL))], S := [], ws := p.2 }) (fun p : Nat × World => p.1 ≤ l.length ∧ Ext w p.2) (fun p : Nat × World => l.length - p.1)
    (fun w' hw => ⟨(0, w), ⟨Nat.zero_le _, Fr.refl _ _⟩, Le.of rfl rfl ⟨rfl, rfl, rfl, rfl, rfl, rfl, rfl, rfl, trivial⟩, hw.keep [3, 1] rfl rfl rfl, ⟨⟨_, _, _, rfl⟩, ⟨_, _, _, rfl⟩, trivial⟩, ⟨(nopL _).okH, (nopL _).okH, trivial⟩⟩) ?_
  rintro ⟨k, ws⟩ ⟨hk, hx⟩
  simp only at hk hx ⊢
  have hsx := hs.ext hx
  have hh := h.ext hx
  repeat refine At.seq ?_
  refine At.join (fun _u : Unit => { N := Tryz.f3.ntmps, sl := [(0, some (.x v)), (3, some (.i key)), (4, some (.i day)), (13, some (.b true)), (14, some (.s (.c (.o 1 va)))), (16, some (.s (.c (.o 3 vb)))), (18, some (.x s)), (19, some (.i k)), (82, some (.b ((decide (k < l.length ∧ k < 6)))))], gl := [], hp := [(3, .row vb 27 7 (A.map encL)), (1, .row va 27 7 (A.map encL))], S := [], ws := ws }) (fun _u : Unit => True) ?_ ?_
  · repeat refine At.seq ?_
    refine At.regionG tab_ok ?_
    conv => whnf
    refine ⟨hh.sl, ?_⟩
    conv => whnf
    rw [hl]
    conv => whnf
    by_cases hkl : (k : Int) < l.length
    · rw [decide_eq_true hkl]
      conv => whnf
      refine At.meet fun w' hw => ⟨(), trivial, Le.of rfl rfl ⟨rfl, rfl, rfl, rfl, rfl, rfl, rfl, rfl, congrArg Value.bool (by exact decide_eq_decide.2 (show ((k : Int) < 6) ↔ (k < l.length ∧ k < 6) from ⟨fun h => by omega, fun h => by omega⟩)), trivial⟩, hw.keep [3, 1] rfl rfl rfl, ⟨⟨_, _, _, rfl⟩, ⟨_, _, _, rfl⟩, trivial⟩, ⟨(nopL _).okH, (nopL _).okH, trivial⟩⟩
    · rw [decide_eq_false hkl]
      conv => whnf
      refine At.meet fun w' hw => ⟨(), trivial, Le.of rfl rfl ⟨rfl, rfl, rfl, rfl, rfl, rfl, rfl, rfl, congrArg Value.bool (by exact (decide_eq_false (fun h => hkl (by omega))).symm), trivial⟩, hw.keep [3, 1] rfl rfl rfl, ⟨⟨_, _, _, rfl⟩, ⟨_, _, _, rfl⟩, trivial⟩, ⟨(nopL _).okH, (nopL _).okH, trivial⟩⟩
  rintro ⟨⟩ -
  repeat refine At.seq ?_
  refine At.cond rfl (fun hc => At.skip ?_) (fun hc => At.exit ?_)
  · have hk6 : k < l.length ∧ k < 6 := of_decide_eq_true hc
    obtain ⟨d, hd⟩ : ∃ d, l[k]? = some d := ⟨_, List.getElem?_eq_getElem hk6.1⟩
    obtain ⟨_, ⟨u, rfl, hu⟩, hcells⟩ := hh.at hd
    have hd8 := hsp d (List.mem_of_getElem? hd)
    obtain ⟨hF, hok⟩ := leaseF_ok (d := d) (seen := sn) hgA (by omega) hd8
    obtain ⟨_, _, _, hgl, _⟩ := good_lease hgA d sn hd8
    have heq := refL_eq hgA sn hd8
    obtain ⟨C, hC⟩ : ∃ C, (leaseDo d sn A).1 = C := ⟨_, rfl⟩
    obtain ⟨m, hm⟩ : ∃ m, (leaseDo d sn A).2 = m := ⟨_, rfl⟩
    have hlh := hh.len
    repeat refine At.seq ?_
    refine At.block ?_
    repeat refine At.seq ?_
    refine At.region tab_ok ?_
    conv => whnf
    refine ⟨by omega, ?_⟩
    conv => whnf
    refine ⟨by omega, ?_⟩
    conv => whnf
    refine ⟨encD d u, fun w' hw => hcells w' hw.fr, ?_⟩
    conv => whnf
    refine ansR_call b48 (rdP (nopL _)) (fun w' hw => leaseDo_c A d sn va u s w' (slL A (hw.row (id := 1) rfl) (by omega)) (hu.fr hw.fr) (hsx.fr hw.fr) (by omega) hd8 hF hok) ?_
    intro vc
    conv => whnf
    rw [hC, hm]
    rw [hC] at hgl
    repeat refine At.seq ?_
    refine At.region tab_ok ?_
    conv => whnf
    refine ⟨by omega, ?_⟩
    conv => whnf
    refine ⟨by omega, ?_⟩
    conv => whnf
    refine ⟨encD d u, fun w' hw => hcells w' hw.fr, ?_⟩
    conv => whnf
    refine either_call (T := loT) (xs := C) (n := m) (id := 3) (v := vb) (E := 27) (size := 7) (L := A.map encL) (Q := C = A) bz14 rfl (fun w' hw => (do28_c A d sn vb u s w' (slL A (hw.row (id := 3) rfl) (by omega)) (hu.fr hw.fr) (hsx.fr hw.fr) hgA (by omega) hd8).mono fun e w2 ⟨r, L', n', he, hr, hx2, hor⟩ => ?_) (fun hCA => ?_) (fun r w2 w3 hw2 hx2 hr => ?_)
    · rw [heq] at hr
      have h1 : L' = C := by rw [← hC, ← hr]
      have h2 : n' = m := by rw [← hm, ← hr]
      subst h1 h2
      refine ⟨r, he, hx2, ?_⟩
      rcases hor with ⟨rfl, e⟩ | ⟨hrow, hfr⟩
      · exact .inl ⟨rfl, e⟩
      · exact .inr (SlOf.of_row (hl := fun _ => rfl) (enc := encL) hrow (fun b hb hb2 => by have := hw.blk_lt b hb2; have := hfr b hb; omega) (by omega))
    · conv => whnf
      repeat refine At.seq ?_
      refine At.regionG tab_ok ?_
      conv => whnf
      rw [decide_eq_true (rfl : m = m)]
      conv => whnf
      refine ans_call b31 (r := .b true) rfl (fun w' hw => by
        have h3 := slL A (hw.row (id := 3) rfl) (by omega)
        rw [← hCA] at h3
        have := sameLots_c C C [] [] vc vb w' (slL C (hw.row (id := 4) rfl) (by omega)) h3
        rw [decide_eq_true (rfl : C = C)] at this
        exact this) ?_
      conv => whnf
      repeat refine At.seq ?_
      refine At.cond (t := false) rfl (fun hq => by cases hq) (fun hq => At.skip ?_)
      repeat refine At.seq ?_
      refine At.region tab_ok ?_
      conv => whnf
      refine ⟨⟨by omega, by omega⟩, ?_⟩
      conv => whnf
      refine At.nextH fun w' hw => ⟨(k + 1, ws), ⟨by simp only; omega, hx⟩, by simp only; omega, Le.of rfl rfl ⟨rfl, rfl, rfl, rfl, rfl, rfl, rfl, rfl, trivial⟩, hw.keep [3, 1] rfl rfl rfl, ⟨⟨_, _, _, rfl⟩, ⟨_, _, _, rfl⟩, trivial⟩, ⟨(nopL _).okH, (nopL _).okH, trivial⟩⟩
    conv => whnf
    repeat refine At.seq ?_
    refine At.regionG tab_ok ?_
    conv => whnf
    rw [decide_eq_true (rfl : m = m)]
    conv => whnf
    refine ans_call b31 (r := .b true) rfl (fun w' hw => by
      have := sameLots_c C C [] _ vc r w' (slL C (hw.row (id := 4) rfl) (by omega)) (hr.fr hw.fr)
      rw [decide_eq_true (rfl : C = C)] at this
      exact this) ?_
    conv => whnf
    repeat refine At.seq ?_
    refine At.cond (t := false) rfl (fun hq => by cases hq) (fun hq => At.skip ?_)
    repeat refine At.seq ?_
    refine At.region tab_ok ?_
    conv => whnf
    refine ⟨⟨by omega, by omega⟩, ?_⟩
    conv => whnf
    refine At.nextH fun w' hw => ⟨(k + 1, ws), ⟨by simp only; omega, hx⟩, by simp only; omega, Le.of rfl rfl ⟨rfl, rfl, rfl, rfl, rfl, rfl, rfl, rfl, trivial⟩, Holds.back (sc := { N := Tryz.f3.ntmps, sl := [], gl := [], hp := [(3, .row vb 27 7 (A.map encL)), (1, .row va 27 7 (A.map encL))], S := _, ws := _ }) hw2 rfl hx2 (hw.keep [3, 1] rfl rfl rfl) rfl rfl rfl rfl rfl (fun b hb => by simp only [St.blks, List.flatMap_cons, List.flatMap_nil, List.append_nil, List.mem_append] at hb ⊢; rcases hb with hb | hb <;> simp [hb]), ⟨⟨_, _, _, rfl⟩, ⟨_, _, _, rfl⟩, trivial⟩, ⟨(nopL _).okH, (nopL _).okH, trivial⟩⟩
  have hul := usableL_len A key day sn
  repeat refine At.seq ?_
  refine At.regionG tab_ok ?_
  conv => whnf
  refine ansR_call b45 (rd1 (nopS _)) (fun w' hw => usable_c A key day sn va s w' (slL A (hw.row (id := 1) rfl) (by omega)) (hsx.fr hw.fr) (by omega)) ?_
  intro vu
  conv => whnf
  refine ansR_call bz17 (rd1 (nopS _)) (fun w' hw => usableR_c A key day sn vb s w' (slL A (hw.row (id := 3) rfl) (by omega)) (hsx.fr hw.fr) (by omega)) ?_
  intro vr
  conv => whnf
  refine ans_call bz15 (r := .b true) rfl (fun w' hw => spans07_c (usableL A key day sn) vu vr w' (slS _ (hw.row (id := 4) rfl) (by omega)) (slS _ (hw.row (id := 5) rfl) (by omega))) ?_
  conv => whnf
  repeat refine At.seq ?_
  refine At.ret (At.doneB tab_ok hB _ rfl fun w' hw => ⟨rfl, hx.trans hw.fr⟩)
end Go.Proofs.YtjilbkioieicbaaGreat

/- Openers of LeaseTells' arguments. -/
namespace Go.Proofs.YtjilbkioieicbaaGreat
open Go.Vc Rt
set_option linter.unusedVariables false
set_option linter.unusedSimpArgs false
theorem u58 : Tryz.prog.underlying 27 = some (.struct (Tryz.prog.fieldsOf 27)) := by kernel_rfl
theorem u22 : Tryz.prog.underlying 35 = some (.slice 3) := by kernel_rfl
theorem u73 : Tryz.prog.underlying 23 = some (.slice 35) := by kernel_rfl
theorem c22 : Tryz.prog.cellsOf 35 = 1 := by kernel_rfl
section
variable {H : Type} {enc : TypeId × Value → H} {w : World} {spare : Nat → Bool} {held : Bool}
theorem int_open {fuel : Nat} {cs : List Value} {x : DataW H × List MemPlace} (h : DataW.trod enc Tryz.prog w 0 spare held fuel 3 cs = some x) : ∃ (n : Int) (l : List CV), intT.rel [] w n l ∧ dens l = cs := by
  obtain ⟨n, q, _⟩ := DataW.trod_int u3 h
  subst q
  exact ⟨n, _, rfl, rfl⟩
theorem days_cells {fuel : Nat} {cs : List Value} {x : DataW H × List MemPlace} (h : DataW.trod enc Tryz.prog w 0 spare held fuel 35 cs = some x) : ∃ (xs : List Int) (l : List CV), seT.rel [] w xs l ∧ dens l = cs := by
  obtain ⟨v, xs, e, hv⟩ := slOf_open (T := intT) u22 c3 (by decide) (fun cs n x h => int_open h) h
  subst e
  exact ⟨xs, _, ⟨v, rfl, hv⟩, rfl⟩
theorem days_open {v : Value} {d : DataW H} {ps : List MemPlace} (hs : ∃ a n c, v = .slice a n c) (h : DataW.Trod enc Tryz.prog w 0 spare held 35 v d ps) : ∃ l, SlOf intT [] w v l := by
  obtain ⟨a, n, c, rfl⟩ := hs
  obtain ⟨fuel, hf⟩ := h
  obtain ⟨v, xs, e, hv⟩ := slOf_open (T := intT) u22 c3 (by decide) (fun cs n x h => int_open h) hf
  simp [Value.cells] at e
  subst e
  exact ⟨xs, hv⟩
theorem seen_open {v : Value} {d : DataW H} {ps : List MemPlace} (hs : ∃ a n c, v = .slice a n c) (h : DataW.Trod enc Tryz.prog w 0 spare held 23 v d ps) : ∃ l, SlOf seT [] w v l := by
  obtain ⟨a, n, c, rfl⟩ := hs
  obtain ⟨fuel, hf⟩ := h
  obtain ⟨v, xs, e, hv⟩ := slOf_open (T := seT) u73 c22 (by decide) (fun cs n x h => days_cells h) hf
  simp [Value.cells] at e
  subst e
  exact ⟨xs, hv⟩
theorem c58 : Tryz.prog.cellsOf 27 = 7 := by kernel_rfl
theorem f58 : (Tryz.prog.fieldsOf 27).toList.map (fun f => (f.type, f.offset)) = [(25, 0), (3, 3), (3, 4), (3, 5), (3, 6)] := by kernel_rfl
theorem len7 {α : Type} : ∀ {l : List α}, l.length = 7 → ∃ a b c p q r t, l = [a, b, c, p, q, r, t]
  | [a, b, c, p, q, r, t], _ => ⟨a, b, c, p, q, r, t, rfl⟩
theorem lot_open {fuel : Nat} {cs : List Value} {x : DataW H × List MemPlace} (h : DataW.trod enc Tryz.prog w 0 spare held fuel 27 cs = some x) : ∃ (s : Lot) (l : List CV), loT.rel [] w s l ∧ dens l = cs := by
  obtain ⟨xs, n, _, _, hl, hxl, hget⟩ := DataW.trod_struct u58 h
  rw [c58] at hl
  have get : ∀ (i t o : Nat), [(25, 0), (3, 3), (3, 4), (3, 5), (3, 6)][i]? = some (t, o) → ∃ y, DataW.trod enc Tryz.prog w 0 spare held n t ((cs.drop o).take (Tryz.prog.cellsOf t)) = some y := fun i t o hi => by
    have hfi : ((Tryz.prog.fieldsOf 27).toList.map (fun f => (f.type, f.offset)))[i]? = some (t, o) := by rw [f58]; exact hi
    rw [List.getElem?_map] at hfi
    obtain ⟨f, hf1, hf2⟩ := Option.map_eq_some_iff.1 hfi
    simp only [Prod.mk.injEq] at hf2
    obtain ⟨e1, e2⟩ := hf2
    have := hget i f (by simpa using hf1)
    rw [e1, e2] at this
    have hi' : i < xs.length := by have := (List.getElem?_eq_some_iff.1 hf1).1; rw [hxl]; simpa using this
    rw [List.getElem?_eq_getElem hi'] at this
    exact ⟨_, this⟩
  clear h hget hxl
  obtain ⟨a, b, c, p, q, r, t, rfl⟩ := len7 hl
  obtain ⟨_, t0⟩ := get 0 25 0 rfl
  obtain ⟨_, t1⟩ := get 1 3 3 rfl
  obtain ⟨_, t2⟩ := get 2 3 4 rfl
  obtain ⟨_, t3⟩ := get 3 3 5 rfl
  obtain ⟨_, t4⟩ := get 4 3 6 rfl
  rw [c56] at t0
  rw [c3] at t1 t2 t3 t4
  obtain ⟨s, ls, hs, hd⟩ := span_open t0
  obtain ⟨n1, q1, _⟩ := DataW.trod_int u3 t1
  obtain ⟨n2, q2, _⟩ := DataW.trod_int u3 t2
  obtain ⟨n3, q3, _⟩ := DataW.trod_int u3 t3
  obtain ⟨n4, q4, _⟩ := DataW.trod_int u3 t4
  simp at q1 q2 q3 q4
  subst q1 q2 q3 q4
  have hs : ls = encS s := hs
  subst hs
  simp at hd
  refine ⟨⟨s, n1, n2, n3, n4⟩, _, rfl, ?_⟩
  have : dens (encL ⟨s, n1, n2, n3, n4⟩) = dens (encS s) ++ [.int .i64 n1, .int .i64 n2, .int .i64 n3, .int .i64 n4] := rfl
  rw [this, hd]
  rfl
theorem okWide_struct30 {P : Program} {r : Reach} {base : Nat} {t : TypeId} {fs : Array Field} {v : Value} (hu : P.underlying t = some (.struct fs)) (hv : Value.okWide P w r base t v) : ∃ cs, v = .agg cs := by
  unfold Value.okWide at hv
  rw [hu] at hv
  obtain ⟨cs, e, _⟩ := hv
  exact ⟨cs, e⟩
set_option maxRecDepth 100000 in
theorem lot_arg {base : Nat} {v : Value} {d : DataW H} {ps : List MemPlace} (hv : Value.okWide Tryz.prog w .any base 27 v) (h : DataW.Trod enc Tryz.prog w 0 spare held 27 v d ps) : ∃ m : Lot, v = (RV.s (.agg (encL m))).den := by
  have hcs : ∃ cs, v = .agg cs := by
    have q := u58
    generalize Tryz.prog.fieldsOf 27 = fs at q
    generalize Tryz.prog = P at q hv
    exact okWide_struct30 q hv
  obtain ⟨cs, rfl⟩ := hcs
  obtain ⟨fuel, hf⟩ := h
  obtain ⟨m, l, rfl, e⟩ := lot_open hf
  refine ⟨m, ?_⟩
  have e' : cs.toList = dens (encL m) := e.symm
  show Value.agg cs = Value.agg (dens (encL m)).toArray
  rw [← e']
end
end Go.Proofs.YtjilbkioieicbaaGreat


namespace Go.Proofs.YtjilbkioieicbaaGreat.leaseTells
open Go.ChangeShapes Go.WideShapes Go.ChangeAt Go.RowKit
set_option linter.unusedVariables false
theorem own : ownKnob Tryz.prog.godebug = none := by kernel_rfl
set_option maxRecDepth 100000 in
theorem lifted (os : Os) (started : os.Started) (H : Type) (enc : TypeId × Value → H) :
    ReturnsInHanded {} Tryz.checked os 3 .any (Rows.leaseTellsSpec.pre6 enc Tryz.prog Tryz.f3 Rows.leaseTellsRow.domain false) (Rows.leaseTellsSpec.post enc Tryz.prog Tryz.f3 false true false false) := by
  refine returnsInHanded_of_change (C := Tryz.checked) own started (by kernel_rfl) Tryz.func3
    (ChangeSpec.witness6 (enc := enc) (C := Tryz.checked) false ⟨#[], #[.slice none 0 0, .slice none 0 0, .agg #[.int .i64 0, .int .i64 0, .int .i64 0, .int .i64 0, .int .i64 0, .int .i64 0, .int .i64 0], .int .i64 0, .int .i64 0, .int .i64 0], []⟩ 8 (by kernel_rfl) (by kernel_rfl) (by kernel_rfl) (by kernel_rfl)) ?_
  intro W base args ds gs before hval0 hW hcnd _
  have hval : ∀ (j : Nat) t v, Tryz.f3.params[j]? = some t → args[j]? = some v → Value.okWide Tryz.prog W .any base t v := hval0
  have hW' := hW
  obtain ⟨p, q, hA0, hV, rfl, hfz, hnd⟩ := hW
  have hA : DataW.TrodAll enc Tryz.prog W 0 (fun _ => true) true Tryz.f3.params.toList args.toList ds p := hA0
  rw [Tryz.params3] at hA hval
  obtain ⟨v0, vs0, d0, ds0, p0, q0, hargs, rfl, rfl, h0, r0⟩ := trodAll_cons hA
  obtain ⟨v1, vs1, d1, ds1, p1, q1, rfl, rfl, rfl, h1, r1⟩ := trodAll_cons r0
  obtain ⟨v2, vs2, d2, ds2, p2, q2, rfl, rfl, rfl, h2, r2⟩ := trodAll_cons r1
  obtain ⟨v3, vs3, d3, ds3, p3, q3, rfl, rfl, rfl, h3, r3⟩ := trodAll_cons r2
  obtain ⟨v4, vs4, d4, ds4, p4, q4, rfl, rfl, rfl, h4, r4⟩ := trodAll_cons r3
  obtain ⟨v5, vs5, d5, ds5, p5, q5, rfl, rfl, rfl, h5, r5⟩ := trodAll_cons r4
  obtain ⟨rfl, rfl, rfl⟩ := trodAll_nil r5
  obtain rfl : args = #[v0, v1, v2, v3, v4, v5] := by cases args; simp_all
  obtain ⟨rfl, rfl⟩ := trodVars_none hV
  have k0 := h0
  have lt0 : ∀ x ∈ p0, x.block < W.heap.size := fun x hx => hW'.lt x (by simp [hx])
  obtain ⟨l0, s0⟩ := deeds_open (okWide_slice u45 (hval 0 22 v0 rfl rfl)) h0
  have k1 := h1
  have lt1 : ∀ x ∈ p1, x.block < W.heap.size := fun x hx => hW'.lt x (by simp [hx])
  obtain ⟨l1, s1⟩ := seen_open (okWide_slice u73 (hval 1 23 v1 rfl rfl)) h1
  have k2 := h2
  have lt2 : ∀ x ∈ p2, x.block < W.heap.size := fun x hx => hW'.lt x (by simp [hx])
  obtain ⟨l2, e2⟩ := lot_arg (hval 2 27 v2 rfl rfl) h2
  subst e2
  obtain ⟨a3, rfl, rfl, rfl, w3⟩ := open_int u3 (hval 3 3 v3 rfl rfl) h3
  obtain ⟨a4, rfl, rfl, rfl, w4⟩ := open_int u3 (hval 4 3 v4 rfl rfl) h4
  obtain ⟨a5, rfl, rfl, rfl, w5⟩ := open_int u3 (hval 5 3 v5 rfl rfl) h5
  clear hA0 hval0
  simp only [List.append_nil] at hW'
  refine (leaseTells_c l0 l1 l2 a3 a4 a5 v0 v1 W s0 s1).mono fun e W' ⟨he, hx⟩ => ?_
  subst he
  exact ⟨_, rfl, _, _, _, [], _, [], hW', trodAll_cons_mk (shut_bool u4 _) trodAll_mk0, (trodAll_cons_mk (Below.trod laid (by kernel_rfl) (of_decide_eq_true (by kernel_rfl)) k0 hx.below lt0) (trodAll_cons_mk (Below.trod laid (by kernel_rfl) (of_decide_eq_true (by kernel_rfl)) k1 hx.below lt1) (trodAll_cons_mk (Below.trod laid (by kernel_rfl) (of_decide_eq_true (by kernel_rfl)) k2 hx.below lt2) (trodAll_cons_mk (shut_int u3 w3) (trodAll_cons_mk (shut_int u3 w4) (trodAll_cons_mk (shut_int u3 w5) trodAll_mk0)))))), rfl, hx.below.frame _, fun h => by cases h⟩

theorem over : Rows.leaseTellsRow.holds Tryz.pinned (OpenSpec.ofChange Rows.leaseTellsSpec) :=
  OpenClaim.holds_of_wide 3 Tryz.f3 rfl rfl rfl rfl rfl rfl rfl ⟨rfl, rfl, rfl, rfl, rfl⟩ rfl rfl rfl rfl rfl (by kernel_rfl) Tryz.func3 (by kernel_rfl)
    (of_decide_eq_true (by kernel_rfl)) (by unfold Func.isWrapper; first | (rw [if_pos (by decide +kernel)]; kernel_rfl) | (rw [if_neg (by decide +kernel)]; exact ⟨rfl, rfl⟩))
    (fun os started H enc _ => lifted os started H enc)

/-- The statement. -/
theorem proved : Rows.LeaseTellsSaid :=
  over
#print axioms proved
end Go.Proofs.YtjilbkioieicbaaGreat.leaseTells

