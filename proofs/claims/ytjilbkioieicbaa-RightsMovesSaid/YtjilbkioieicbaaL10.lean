/- The law RightsMoves (stokvellaw27): what the call computes. -/
import Derived.Test.YtjilbkioieicbaaL7
import Derived.Test.YtjilbkioieicbaaP9
import Derived.Test.YtjilbkioieicbaaW9
import Derived.Test.YtjilbkioieicbaaVcGuard
namespace Go.Proofs.Ytjilbkioieicbaa
open Go.Vc Rt
set_option linter.unusedVariables false
set_option linter.unusedSimpArgs false
theorem moves_c (l : List Deed) (other : Int) (v : Value) (w : World) (h : SlOf deT [] w v l) : Ans Try.prog 10 [v, vI other] (.b true) w := by
  have hl := h.len
  have hsm := h.small
  obtain ⟨U, hU⟩ := slices_of h
  refine calls_plainB [.x v, .i other] Try.func10 rfl rfl (Nat.le_of_ble_eq_true rfl) rfl fun B hB => ?_
  repeat refine At.seq ?_
  refine At.region tab_ok ?_
  conv => whnf
  repeat refine At.seq ?_
  refine At.region tab_ok ?_
  conv => whnf
  refine ans_call b24 rfl (fun w' hw => small27_c w') ?_
  conv => whnf
  repeat refine At.seq ?_
  refine At.region tab_ok ?_
  conv => whnf
  refine ans_call b25 rfl (fun w' hw => few_c l 14 [] v w' (h.fr hw.fr)) ?_
  conv => whnf
  repeat refine At.seq ?_
  refine At.cond rfl (fun hq => ?_) (fun hq => ?_)
  · repeat refine At.seq ?_
    refine At.region tab_ok ?_
    conv => whnf
    repeat refine At.seq ?_
    refine At.ret (At.doneB tab_ok hB _ rfl fun w' hw => ⟨rfl, hw.fr⟩)
  · have hfew : few l 14 = true := by simpa using hq
    obtain ⟨hn, hsp⟩ := few_spec hfew
    have hn : l.length ≤ 14 := by omega
    have hes := lotsK_errs l
    have hat := fun i d (hd : l[i]? = some d) => lots_at hsp hd
    refine At.skip ?_
    repeat refine At.seq ?_
    refine At.region tab_ok ?_
    conv => whnf
    refine ansR_call b26 (rd2 (nopL _) (nopI _)) (fun w' hw => lots_c l [] v w' (h.fr hw.fr) (by omega) (lots_ok hsp (by omega))) ?_
    intro va
    conv => whnf
    intro ve
    conv => whnf
    generalize (lotsK l).2 = es at *
    repeat refine At.seq ?_
    refine At.region tab_ok ?_
    conv => whnf
    repeat refine At.seq ?_
    refine At.block ?_
    refine At.loopH (fun k : Nat => { N := Try.f10.ntmps, sl := [(0, some (.x v)), (1, some (.i other)), (5, some (.b true)), (7, some (.s (.c (.o 1 ve)))), (8, some (.i k))], gl := [], hp := [(1, .row ve 30 1 (es.map encI))], S := [], ws := w }) (fun k : Nat => k ≤ l.length) (fun k : Nat => l.length - k)
      (fun w' hw => ⟨0, Nat.zero_le _, Le.of rfl rfl ⟨rfl, rfl, rfl, rfl, rfl, trivial⟩, hw.keep [1] rfl rfl rfl, ⟨⟨_, _, _, rfl⟩, trivial⟩, ⟨(nopI _).okH, trivial⟩⟩) ?_
    intro k hk
    repeat refine At.seq ?_
    refine At.region tab_ok ?_
    conv => whnf
    refine ⟨h.sl, ?_⟩
    conv => whnf
    refine ⟨by simp only [gimp]; intros; trivial, ?_⟩
    conv => whnf
    repeat refine At.seq ?_
    refine At.cond rfl (fun hc => At.skip ?_) (fun hc => At.exit ?_)
    · have hlt : k < l.length := by simp only [band, Bool.and_eq_true, decide_eq_true_eq] at hc; omega
      obtain ⟨d, hd⟩ : ∃ d, l[k]? = some d := ⟨_, List.getElem?_eq_getElem hlt⟩
      obtain ⟨hu, hcells⟩ := hU k d hd
      obtain ⟨e1, e2⟩ := hat k d hd
      have hd8 := hsp d (List.mem_of_getElem? hd)
      have hspk : ∀ x ∈ l.take k, x.spans.length ≤ 8 := fun x hx => hsp x (List.mem_of_mem_take hx)
      have hspk1 : ∀ x ∈ l.take (k + 1), x.spans.length ≤ 8 := fun x hx => hsp x (List.mem_of_mem_take hx)
      have hg := good_lots _ (l.take k) rfl hspk
      have hlen := (lotsK_keeps _ (l.take k) rfl hspk).2.2
      have hlen1 := (lotsK_keeps _ (l.take (k + 1)) rfl hspk1).2.2
      simp only [List.length_take] at hlen hlen1
      obtain ⟨hg', he, hst⟩ := good_do (d := d) hg hd8
      repeat refine At.seq ?_
      refine At.block ?_
      repeat refine At.seq ?_
      refine At.region tab_ok ?_
      conv => whnf
      refine ⟨by omega, ?_⟩
      conv => whnf
      refine ⟨by omega, ?_⟩
      conv => whnf
      refine ⟨encD d (U k), fun w' hw => hcells w' hw.fr, ?_⟩
      conv => whnf
      intro b9
      conv => whnf
      refine ⟨hu.sl.one, ?_⟩
      conv => whnf
      repeat refine At.seq ?_
      refine At.region tab_ok ?_
      conv => whnf
      refine ⟨h.sl, ?_⟩
      conv => whnf
      refine ⟨by omega, ?_⟩
      conv => whnf
      refine ⟨by omega, ?_⟩
      conv => whnf
      refine ⟨by omega, ?_⟩
      conv => whnf
      refine ansR_call b26 (rd2 (nopL _) (nopI _)) (fun w' hw => lots_c (l.take k) [] _ w' ((h.fr hw.fr).begin rfl (by omega)) (by simp; omega) (lots_ok hspk (by simp; omega))) ?_
      intro vb
      conv => whnf
      intro vbe
      conv => whnf
      repeat refine At.seq ?_
      refine At.region tab_ok ?_
      conv => whnf
      refine ⟨⟨by omega, by omega⟩, ?_⟩
      conv => whnf
      refine ⟨h.sl, ?_⟩
      conv => whnf
      refine ⟨by omega, ?_⟩
      conv => whnf
      refine ⟨by omega, ?_⟩
      conv => whnf
      refine ⟨by omega, ?_⟩
      conv => whnf
      refine ansR_call b26 (rd2 (nopL _) (nopI _)) (fun w' hw => lots_c (l.take (k + 1)) [] _ w' ((h.fr hw.fr).begin (by omega) (by omega)) (by simp; omega) (lots_ok hspk1 (by simp; omega))) ?_
      rw [e1] at hlen1 ⊢
      intro vf
      conv => whnf
      intro vfe
      conv => whnf
      generalize (lotsK (l.take k)).1 = L at *
      generalize hdo : doB L d = D at *
      obtain ⟨L', er⟩ := D
      simp only at hlen1 hg' he hst e2 ⊢
      repeat refine At.seq ?_
      refine At.region tab_ok ?_
      conv => whnf
      refine ⟨rfl, ?_⟩
      conv => whnf
      refine ⟨by omega, ?_⟩
      conv => whnf
      refine ⟨by (try simp only [List.length_map]); omega, ?_⟩
      conv => whnf
      refine ⟨encI er, ⟨rfl, rfl, by omega, by rw [Int.toNat_natCast, List.getElem?_map, e2]; rfl⟩, ?_⟩
      conv => whnf
      repeat refine At.seq ?_
      refine At.cond rfl (fun hq => ?_) (fun hq => ?_)
      · have her : ¬ er = 0 := by simpa using hq
        have hsame : L' = L := by
          have := doB_refused (d := d) hg.mgd (by rw [hdo]; exact her)
          rw [hdo] at this; exact this
        subst hsame
        repeat refine At.seq ?_
        refine At.region tab_ok ?_
        conv => whnf
        refine ans_call b31 (r := .b true) rfl (fun w' hw => by
          have := sameLots_c L' L' [] [] vb vf w' (slL L' (hw.row (id := 3) rfl) (by omega)) (slL L' (hw.row (id := 5) rfl) (by omega))
          rw [decide_eq_true (rfl : L' = L')] at this
          exact this) ?_
        conv => whnf
        repeat refine At.seq ?_
        refine At.cond (t := false) rfl (fun hq => by cases hq) (fun hq => At.skip ?_)
        refine At.exit ?_
        repeat refine At.seq ?_
        refine At.region tab_ok ?_
        conv => whnf
        refine ⟨⟨by omega, by omega⟩, ?_⟩
        conv => whnf
        refine At.nextH fun w' hw => ⟨k + 1, by omega, by omega, Le.of rfl rfl ⟨rfl, rfl, rfl, rfl, rfl, trivial⟩, hw.keep [1] rfl rfl rfl, ⟨⟨_, _, _, rfl⟩, trivial⟩, ⟨(nopI _).okH, trivial⟩⟩
      · have her : er = 0 := by simpa using hq
        subst her
        have he := he.symm
        refine At.skip ?_
        repeat refine At.seq ?_
        refine At.join (fun u : Unit => { N := Try.f10.ntmps, sl := [(0, some (.x v)), (1, some (.i other)), (5, some (.b true)), (7, some (.s (.c (.o 1 ve)))), (8, some (.i k)), (9, some (.s (.c (.p 2 b9 0)))), (10, some (.s (.c (.o 3 vb)))), (12, some (.s (.c (.o 5 vf)))), (98, some (.b false))], gl := [], hp := [(5, .row vf 58 7 (L'.map encL)), (3, .row vb 58 7 (L.map encL)), (2, .box b9 54 (encD d (U k))), (1, .row ve 30 1 (es.map encI))], S := [], ws := w }) (fun u : Unit => True) ?_ ?_
        · repeat refine At.seq ?_
          refine At.regionG tab_ok ?_
          conv => whnf
          by_cases ho : other = d.author
          · rw [decide_eq_true ho]
            conv => whnf
            refine At.meet fun w' hw => ⟨(), trivial, Le.of rfl rfl ⟨rfl, rfl, rfl, rfl, rfl, rfl, rfl, rfl, rfl, trivial⟩, hw.keep [5, 3, 2, 1] rfl rfl rfl, ⟨⟨_, _, _, rfl⟩, ⟨_, _, rfl⟩, ⟨_, _, _, rfl⟩, ⟨_, _, _, rfl⟩, trivial⟩, ⟨(nopL _).okH, (nopL _).okH, (nopI _).okH, trivial⟩⟩
          rw [decide_eq_false ho]
          conv => whnf
          by_cases ho2 : other = d.who
          · rw [decide_eq_true ho2]
            conv => whnf
            refine At.meet fun w' hw => ⟨(), trivial, Le.of rfl rfl ⟨rfl, rfl, rfl, rfl, rfl, rfl, rfl, rfl, rfl, trivial⟩, hw.keep [5, 3, 2, 1] rfl rfl rfl, ⟨⟨_, _, _, rfl⟩, ⟨_, _, rfl⟩, ⟨_, _, _, rfl⟩, ⟨_, _, _, rfl⟩, trivial⟩, ⟨(nopL _).okH, (nopL _).okH, (nopI _).okH, trivial⟩⟩
          rw [decide_eq_false ho2]
          conv => whnf
          refine ansR_call b29 (rd1 (nopS _)) (fun w' hw => held_c L other [] vb w' (slL L (hw.row (id := 3) rfl) (by omega)) (by omega)) ?_
          intro v1
          conv => whnf
          refine ansR_call b29 (rd1 (nopS _)) (fun w' hw => held_c L' other [] vf w' (slL L' (hw.row (id := 5) rfl) (by omega)) (by omega)) ?_
          intro v2
          conv => whnf
          have hh1 := heldL_len L other
          have hh2 := heldL_len L' other
          have hho := others_held hg.ord hg'.ord hst he ho ho2
          refine ans_call b35 (r := .b true) rfl (fun w' hw => by
            have := sameSpans_c (heldL L other) (heldL L' other) [] [] v1 v2 w' (slS _ (hw.row (id := 7) rfl) (by omega)) (slS _ (hw.row (id := 8) rfl) (by omega))
            rw [decide_eq_true hho] at this
            exact this) ?_
          conv => whnf
          by_cases hk3 : d.kind = 3
          · rw [decide_eq_true hk3]
            conv => whnf
            refine At.meet fun w' hw => ⟨(), trivial, Le.of rfl rfl ⟨rfl, rfl, rfl, rfl, rfl, rfl, rfl, rfl, rfl, trivial⟩, hw.keep [5, 3, 2, 1] rfl rfl rfl, ⟨⟨_, _, _, rfl⟩, ⟨_, _, rfl⟩, ⟨_, _, _, rfl⟩, ⟨_, _, _, rfl⟩, trivial⟩, ⟨(nopL _).okH, (nopL _).okH, (nopI _).okH, trivial⟩⟩
          rw [decide_eq_false hk3]
          conv => whnf
          refine ansR_call b28 (rd1 (nopS _)) (fun w' hw => owned_c L other [] vb w' (slL L (hw.row (id := 3) rfl) (by omega)) (by omega)) ?_
          intro v3
          conv => whnf
          refine ansR_call b28 (rd1 (nopS _)) (fun w' hw => owned_c L' other [] vf w' (slL L' (hw.row (id := 5) rfl) (by omega)) (by omega)) ?_
          intro v4
          conv => whnf
          have hh3 := ownedL_len L other
          have hh4 := ownedL_len L' other
          have hoo := others_owned hg.ord hg'.ord hst he ho ho2 hk3
          refine ans_call b35 (r := .b true) rfl (fun w' hw => by
            have := sameSpans_c (ownedL L other) (ownedL L' other) [] [] v3 v4 w' (slS _ (hw.row (id := 9) rfl) (by omega)) (slS _ (hw.row (id := 10) rfl) (by omega))
            rw [decide_eq_true hoo] at this
            exact this) ?_
          conv => whnf
          refine At.meet fun w' hw => ⟨(), trivial, Le.of rfl rfl ⟨rfl, rfl, rfl, rfl, rfl, rfl, rfl, rfl, rfl, trivial⟩, hw.keep [5, 3, 2, 1] rfl rfl rfl, ⟨⟨_, _, _, rfl⟩, ⟨_, _, rfl⟩, ⟨_, _, _, rfl⟩, ⟨_, _, _, rfl⟩, trivial⟩, ⟨(nopL _).okH, (nopL _).okH, (nopI _).okH, trivial⟩⟩
        intro _ _
        repeat refine At.seq ?_
        refine At.cond (t := false) rfl (fun hq => by cases hq) (fun hq => At.skip ?_)
        repeat refine At.seq ?_
        refine At.region tab_ok ?_
        conv => whnf
        repeat refine At.seq ?_
        refine At.cond rfl (fun hq => ?_) (fun hq => ?_)
        · have hk0 : d.kind = 0 := of_decide_eq_true hq
          obtain ⟨t1, t2⟩ := took_held hg'.ord hst he hk0
          have hh1 := heldL_len L' d.author
          have hh2 := ownedL_len L' d.author
          repeat refine At.seq ?_
          refine At.planG tab_ok mixed [(5, .row vf 58 7 (L'.map encL)), (2, .box b9 54 (encD d (U k))), (1, .row ve 30 1 (es.map encI))] (.take 0 (.take 1 (.take 2 (.take 3 (.take 4 (.br 5 (.br 6 (.take 7 (.take 8 (.take 9 (.take 10 (.take 11 (.take 12 (.take 13 (.br 14 (.br 15 (.take 16 (.take 17 (.done))) (.nob)) (.nob))))))))) (.nob)) (.nob))))))) (by kernel_rfl) (by kernel_rfl) ⟨rfl, rfl, rfl, trivial⟩ ?_
          conv => whnf
          refine ⟨?_, trivial⟩
          conv => whnf
          refine ansR_call b29 (rd1 (nopS _)) (fun w' hw => held_c L' d.author [] vf w' (slL L' (hw.row (id := 5) rfl) (by omega)) (by omega)) ?_
          intro v1
          conv => whnf
          refine ⟨⟨⟨rfl, rfl, rfl, trivial⟩, fun w' hw => hw.fr⟩, ?_⟩
          conv => whnf
          refine ⟨?_, trivial⟩
          conv => whnf
          refine ans_call b40 (r := .b true) rfl (fun w' hw => by
            have := within_c d.spans (heldL L' d.author) [] [] (U k) v1 w' (hu.fr hw.fr) (slS _ (hw.row (id := 6) rfl) (by omega)) (by omega) (by omega)
            rw [decide_eq_true t1] at this
            exact this) ?_
          conv => whnf
          refine ⟨⟨⟨rfl, rfl, rfl, trivial⟩, fun w' hw => hw.fr⟩, ?_⟩
          conv => whnf
          refine ⟨?_, trivial⟩
          conv => whnf
          refine ansR_call b28 (rd1 (nopS _)) (fun w' hw => owned_c L' d.author [] vf w' (slL L' (hw.row (id := 5) rfl) (by omega)) (by omega)) ?_
          intro v2
          conv => whnf
          refine ⟨⟨⟨rfl, rfl, rfl, trivial⟩, fun w' hw => hw.fr⟩, ?_⟩
          conv => whnf
          refine ⟨?_, trivial⟩
          conv => whnf
          refine ans_call b40 (r := .b true) rfl (fun w' hw => by
            have := within_c d.spans (ownedL L' d.author) [] [] (U k) v2 w' (hu.fr hw.fr) (slS _ (hw.row (id := 7) rfl) (by omega)) (by omega) (by omega)
            rw [decide_eq_true t2] at this
            exact this) ?_
          conv => whnf
          refine ⟨⟨⟨rfl, rfl, rfl, trivial⟩, fun w' hw => hw.fr⟩, ?_⟩
          conv => whnf
          repeat refine At.seq ?_
          refine At.cond (t := false) rfl (fun hq => by cases hq) (fun hq => At.skip ?_)
          refine At.exit ?_
          repeat refine At.seq ?_
          refine At.region tab_ok ?_
          conv => whnf
          refine ⟨⟨by omega, by omega⟩, ?_⟩
          conv => whnf
          refine At.nextH fun w' hw => ⟨k + 1, by omega, by omega, Le.of rfl rfl ⟨rfl, rfl, rfl, rfl, rfl, trivial⟩, hw.keep [1] rfl rfl rfl, ⟨⟨_, _, _, rfl⟩, trivial⟩, ⟨(nopI _).okH, trivial⟩⟩
        · have hk0 : ¬ d.kind = 0 := of_decide_eq_false hq
          refine At.skip ?_
          have t1 := gave_held hg.ord he hk0
          have t2 := gone_held hg'.ord hst he hk0
          have hh1 := heldL_len L d.author
          have hh2 := heldL_len L' d.author
          repeat refine At.seq ?_
          refine At.planG tab_ok mixed [(5, .row vf 58 7 (L'.map encL)), (3, .row vb 58 7 (L.map encL)), (2, .box b9 54 (encD d (U k))), (1, .row ve 30 1 (es.map encI))] (.take 0 (.take 1 (.take 2 (.take 3 (.take 4 (.br 5 (.br 6 (.take 7 (.take 8 (.take 9 (.take 10 (.take 11 (.take 12 (.take 13 (.br 14 (.br 15 (.br 16 (.take 17 (.take 18 (.done))) (.nob)) (.nob)) (.nob))))))))) (.nob)) (.nob))))))) (by kernel_rfl) (by kernel_rfl) ⟨rfl, rfl, rfl, rfl, trivial⟩ ?_
          conv => whnf
          refine ⟨?_, trivial⟩
          conv => whnf
          refine ansR_call b29 (rd1 (nopS _)) (fun w' hw => held_c L d.author [] vb w' (slL L (hw.row (id := 3) rfl) (by omega)) (by omega)) ?_
          intro v1
          conv => whnf
          refine ⟨⟨⟨rfl, rfl, rfl, rfl, trivial⟩, fun w' hw => hw.fr⟩, ?_⟩
          conv => whnf
          refine ⟨?_, trivial⟩
          conv => whnf
          refine ans_call b40 (r := .b true) rfl (fun w' hw => by
            have := within_c d.spans (heldL L d.author) [] [] (U k) v1 w' (hu.fr hw.fr) (slS _ (hw.row (id := 6) rfl) (by omega)) (by omega) (by omega)
            rw [decide_eq_true t1] at this
            exact this) ?_
          conv => whnf
          refine ⟨⟨⟨rfl, rfl, rfl, rfl, trivial⟩, fun w' hw => hw.fr⟩, ?_⟩
          conv => whnf
          refine ⟨?_, trivial⟩
          conv => whnf
          refine ansR_call b29 (rd1 (nopS _)) (fun w' hw => held_c L' d.author [] vf w' (slL L' (hw.row (id := 5) rfl) (by omega)) (by omega)) ?_
          intro v2
          conv => whnf
          refine ⟨⟨⟨rfl, rfl, rfl, rfl, trivial⟩, fun w' hw => hw.fr⟩, ?_⟩
          conv => whnf
          refine ⟨?_, trivial⟩
          conv => whnf
          refine ansR_call b41 (rd1 (nopS _)) (fun w' hw => common_c d.spans (heldL L' d.author) [] [] (U k) v2 w' (hu.fr hw.fr) (slS _ (hw.row (id := 7) rfl) (by omega)) (by omega) (by omega)) ?_
          rw [List.eq_nil_of_length_eq_zero t2]
          intro v3
          conv => whnf
          refine ⟨⟨⟨rfl, rfl, rfl, rfl, trivial⟩, fun w' hw => hw.fr⟩, ?_⟩
          conv => whnf
          refine ⟨?_, trivial⟩
          conv => whnf
          refine ⟨rfl, ?_⟩
          conv => whnf
          refine ⟨⟨⟨rfl, rfl, rfl, rfl, trivial⟩, fun w' hw => hw.fr⟩, ?_⟩
          conv => whnf
          repeat refine At.seq ?_
          refine At.cond (t := false) rfl (fun hq => by cases hq) (fun hq => At.skip ?_)
          repeat refine At.seq ?_
          refine At.join (fun u : Unit => { N := Try.f10.ntmps, sl := [(0, some (.x v)), (1, some (.i other)), (5, some (.b true)), (7, some (.s (.c (.o 1 ve)))), (8, some (.i k)), (181, some (.b false))], gl := [], hp := [(1, .row ve 30 1 (es.map encI))], S := [], ws := w }) (fun u : Unit => True) ?_ ?_
          · repeat refine At.seq ?_
            refine At.planG tab_ok mixed [(5, .row vf 58 7 (L'.map encL)), (2, .box b9 54 (encD d (U k))), (1, .row ve 30 1 (es.map encI))] (.take 0 (.take 1 (.take 2 (.take 3 (.take 4 (.take 5 (.take 6 (.take 7 (.take 8 (.br 9 (.br 10 (.take 11 (.take 12 (.take 13 (.take 14 (.take 15 (.take 16 (.take 17 (.take 18 (.take 19 (.take 20 (.take 21 (.take 22 (.br 23 (.br 24 (.take 25 (.take 26 (.take 27 (.take 28 (.take 29 (.take 30 (.take 31 (.take 32 (.take 33 (.take 34 (.take 35 (.take 36 (.take 37 (.br 38 (.br 39 (.take 40 (.take 41 (.take 42 (.done)))) (.nob)) (.nob))))))))))))))) (.nob)) (.nob)))))))))))))) (.nob)) (.nob))))))))))) (by kernel_rfl) (by kernel_rfl) ⟨rfl, rfl, rfl, trivial⟩ ?_
            conv => whnf
            by_cases hk3 : d.kind = 3
            · have e1 : decide (d.kind = 1) = false := decide_eq_false (by omega)
              have e2 : decide (d.kind = 2) = false := decide_eq_false (by omega)
              rw [decide_eq_true hk3]
              conv => whnf
              refine ⟨?_, trivial⟩
              conv => whnf
              refine ⟨⟨⟨rfl, rfl, rfl, trivial⟩, fun w' hw => hw.fr⟩, ?_⟩
              conv => whnf
              refine ⟨?_, trivial⟩
              conv => whnf
              refine ⟨⟨⟨rfl, rfl, rfl, trivial⟩, fun w' hw => hw.fr⟩, ?_⟩
              conv => whnf
              rw [e1]
              conv => whnf
              refine ⟨?_, trivial⟩
              conv => whnf
              refine ⟨⟨⟨rfl, rfl, rfl, trivial⟩, fun w' hw => hw.fr⟩, ?_⟩
              conv => whnf
              refine ⟨?_, trivial⟩
              conv => whnf
              refine ⟨⟨⟨rfl, rfl, rfl, trivial⟩, fun w' hw => hw.fr⟩, ?_⟩
              conv => whnf
              rw [e2]
              conv => whnf
              refine ⟨?_, trivial⟩
              conv => whnf
              refine ⟨⟨⟨rfl, rfl, rfl, trivial⟩, fun w' hw => hw.fr⟩, ?_⟩
              conv => whnf
              refine ⟨?_, trivial⟩
              conv => whnf
              refine ⟨⟨⟨rfl, rfl, rfl, trivial⟩, fun w' hw => hw.fr⟩, ?_⟩
              conv => whnf
              refine At.meet fun w' hw => ⟨(), trivial, Le.of rfl rfl ⟨rfl, rfl, rfl, rfl, rfl, rfl, trivial⟩, hw.keep [1] rfl rfl rfl, ⟨⟨_, _, _, rfl⟩, trivial⟩, ⟨(nopI _).okH, trivial⟩⟩
            · have t3 := got_held hg'.ord hst he hk0 hk3
              have hh3 := heldL_len L' d.who
              rw [decide_eq_false hk3]
              conv => whnf
              refine ⟨?_, trivial⟩
              conv => whnf
              refine ansR_call b29 (rd1 (nopS _)) (fun w' hw => held_c L' d.who [] vf w' (slL L' (hw.row (id := 5) rfl) (by omega)) (by omega)) ?_
              intro v1
              conv => whnf
              refine ⟨⟨⟨rfl, rfl, rfl, trivial⟩, fun w' hw => hw.fr⟩, ?_⟩
              conv => whnf
              refine ⟨?_, trivial⟩
              conv => whnf
              refine ans_call b40 (r := .b true) rfl (fun w' hw => by
                have := within_c d.spans (heldL L' d.who) [] [] (U k) v1 w' (hu.fr hw.fr) (slS _ (hw.row (id := 9) rfl) (by omega)) (by omega) (by omega)
                rw [decide_eq_true t3] at this
                exact this) ?_
              conv => whnf
              refine ⟨⟨⟨rfl, rfl, rfl, trivial⟩, fun w' hw => hw.fr⟩, ?_⟩
              conv => whnf
              by_cases hk1 : d.kind = 1
              · have e2 : decide (d.kind = 2) = false := decide_eq_false (by omega)
                have t4 := got_owned hg'.ord hst he hk1
                have hh4 := ownedL_len L' d.who
                rw [decide_eq_true hk1]
                conv => whnf
                refine ⟨?_, trivial⟩
                conv => whnf
                refine ansR_call b28 (rd1 (nopS _)) (fun w' hw => owned_c L' d.who [] vf w' (slL L' (hw.row (id := 5) rfl) (by omega)) (by omega)) ?_
                intro v2
                conv => whnf
                refine ⟨⟨⟨rfl, rfl, rfl, trivial⟩, fun w' hw => hw.fr⟩, ?_⟩
                conv => whnf
                refine ⟨?_, trivial⟩
                conv => whnf
                refine ans_call b40 (r := .b true) rfl (fun w' hw => by
                  have := within_c d.spans (ownedL L' d.who) [] [] (U k) v2 w' (hu.fr hw.fr) (slS _ (hw.row (id := 10) rfl) (by omega)) (by omega) (by omega)
                  rw [decide_eq_true t4] at this
                  exact this) ?_
                conv => whnf
                refine ⟨⟨⟨rfl, rfl, rfl, trivial⟩, fun w' hw => hw.fr⟩, ?_⟩
                conv => whnf
                rw [e2]
                conv => whnf
                refine ⟨?_, trivial⟩
                conv => whnf
                refine ⟨⟨⟨rfl, rfl, rfl, trivial⟩, fun w' hw => hw.fr⟩, ?_⟩
                conv => whnf
                refine ⟨?_, trivial⟩
                conv => whnf
                refine ⟨⟨⟨rfl, rfl, rfl, trivial⟩, fun w' hw => hw.fr⟩, ?_⟩
                conv => whnf
                refine At.meet fun w' hw => ⟨(), trivial, Le.of rfl rfl ⟨rfl, rfl, rfl, rfl, rfl, rfl, trivial⟩, hw.keep [1] rfl rfl rfl, ⟨⟨_, _, _, rfl⟩, trivial⟩, ⟨(nopI _).okH, trivial⟩⟩
              · have hk2 : d.kind = 2 := by have := right_kind (err_right he); omega
                have t4 := lent_owned hg'.ord hst he hk2
                rw [decide_eq_false hk1]
                conv => whnf
                refine ⟨?_, trivial⟩
                conv => whnf
                refine ⟨⟨⟨rfl, rfl, rfl, trivial⟩, fun w' hw => hw.fr⟩, ?_⟩
                conv => whnf
                refine ⟨?_, trivial⟩
                conv => whnf
                refine ⟨⟨⟨rfl, rfl, rfl, trivial⟩, fun w' hw => hw.fr⟩, ?_⟩
                conv => whnf
                have hh4 := ownedL_len L' d.author
                rw [decide_eq_true hk2]
                conv => whnf
                refine ⟨?_, trivial⟩
                conv => whnf
                refine ansR_call b28 (rd1 (nopS _)) (fun w' hw => owned_c L' d.author [] vf w' (slL L' (hw.row (id := 5) rfl) (by omega)) (by omega)) ?_
                intro v2
                conv => whnf
                refine ⟨⟨⟨rfl, rfl, rfl, trivial⟩, fun w' hw => hw.fr⟩, ?_⟩
                conv => whnf
                refine ⟨?_, trivial⟩
                conv => whnf
                refine ans_call b40 (r := .b true) rfl (fun w' hw => by
                  have := within_c d.spans (ownedL L' d.author) [] [] (U k) v2 w' (hu.fr hw.fr) (slS _ (hw.row (id := 10) rfl) (by omega)) (by omega) (by omega)
                  rw [decide_eq_true t4] at this
                  exact this) ?_
                conv => whnf
                refine ⟨⟨⟨rfl, rfl, rfl, trivial⟩, fun w' hw => hw.fr⟩, ?_⟩
                conv => whnf
                refine At.meet fun w' hw => ⟨(), trivial, Le.of rfl rfl ⟨rfl, rfl, rfl, rfl, rfl, rfl, trivial⟩, hw.keep [1] rfl rfl rfl, ⟨⟨_, _, _, rfl⟩, trivial⟩, ⟨(nopI _).okH, trivial⟩⟩
          intro _ _
          repeat refine At.seq ?_
          refine At.cond (t := false) rfl (fun hq => by cases hq) (fun hq => At.skip ?_)
          repeat refine At.seq ?_
          refine At.region tab_ok ?_
          conv => whnf
          refine ⟨⟨by omega, by omega⟩, ?_⟩
          conv => whnf
          refine At.nextH fun w' hw => ⟨k + 1, by omega, by omega, Le.of rfl rfl ⟨rfl, rfl, rfl, rfl, rfl, trivial⟩, hw.keep [1] rfl rfl rfl, ⟨⟨_, _, _, rfl⟩, trivial⟩, ⟨(nopI _).okH, trivial⟩⟩
    · have hge : k = l.length := by simp only [band, Bool.and_eq_false_iff, decide_eq_false_iff_not] at hc; simp at hc; omega
      repeat refine At.seq ?_
      refine At.region tab_ok ?_
      conv => whnf
      refine ⟨by simp only [gimp]; intros; trivial, ?_⟩
      conv => whnf
      refine ⟨by simp only [gimp]; intros; exact h.sl, ?_⟩
      conv => whnf
      repeat refine At.seq ?_
      refine At.ret (At.doneB tab_ok hB _ rfl fun w' hw => ⟨?_, hw.fr⟩)
      simp [RV.den, SV.den, CV.den, hes, hl]
end Go.Proofs.Ytjilbkioieicbaa
