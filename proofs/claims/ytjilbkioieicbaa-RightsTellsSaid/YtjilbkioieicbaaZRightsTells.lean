/- The law RightsTells: for every input the call returns true and the arguments read as before; no condition. -/
import Derived.Test.YtjilbkioieicbaaME
import Derived.Test.YtjilbkioieicbaaMG
import Derived.Test.YtjilbkioieicbaaMF
import Derived.Test.YtjilbkioieicbaaVcGuard
import Derived.Test.YtjilbkioieicbaaRows
import Derived.WalkKit
import Derived.ProofKit
import Derived.OpenShut
import Derived.Carry
/- The law RightsMoves (stokvellaw27): what the call computes. -/
namespace Go.Proofs.Ytjilbkioieicbaa
open Go.Vc Rt
set_option linter.unusedVariables false
set_option linter.unusedSimpArgs false
theorem moves_c (l : List Deed) (other : Int) (v : Value) (w : World) (h : SlOf deT [] w v l) : Ans Try.prog 10 [v, vI other] (.b true) w := by
  have hl := h.len
  have hsm := h.small
  obtain ⟨U, hU⟩ := slices_of h
  refine calls_plainB [.x v, .i other] Try.func10 rfl rfl (Nat.le_of_ble_eq_true rfl) rfl fun B hB => ?_
  repeat refine At.seq ?_
  refine At.region tab_ok ?_
  conv => whnf
  repeat refine At.seq ?_
  refine At.region tab_ok ?_
  conv => whnf
  refine ans_call b24 rfl (fun w' hw => small27_c w') ?_
  conv => whnf
  repeat refine At.seq ?_
  refine At.region tab_ok ?_
  conv => whnf
  refine ans_call b25 rfl (fun w' hw => few_c l 14 [] v w' (h.fr hw.fr)) ?_
  conv => whnf
  repeat refine At.seq ?_
  refine At.cond rfl (fun hq => ?_) (fun hq => ?_)
  · repeat refine At.seq ?_
    refine At.region tab_ok ?_
    conv => whnf
    repeat refine At.seq ?_
    refine At.ret (At.doneB tab_ok hB _ rfl fun w' hw => ⟨rfl, hw.fr⟩)
  · have hfew : few l 14 = true := by simpa using hq
    obtain ⟨hn, hsp⟩ := few_spec hfew
    have hn : l.length ≤ 14 := by omega
    have hes := lotsK_errs l
    have hat := fun i d (hd : l[i]? = some d) => lots_at hsp hd
    refine At.skip ?_
    repeat refine At.seq ?_
    refine At.region tab_ok ?_
    conv => whnf
    refine ansR_call b26 (rd2 (nopL _) (nopI _)) (fun w' hw => lots_c l [] v w' (h.fr hw.fr) (by omega) (lots_ok hsp (by omega))) ?_
    intro va
    conv => whnf
    intro ve
    conv => whnf
    generalize (lotsK l).2 = es at *
    repeat refine At.seq ?_
    refine At.region tab_ok ?_
    conv => whnf
    repeat refine At.seq ?_
    refine At.block ?_
    refine At.loopH (fun k : Nat => { N := Try.f10.ntmps, sl := [(0, some (.x v)), (1, some (.i other)), (5, some (.b true)), (7, some (.s (.c (.o 1 ve)))), (8, some (.i k))], gl := [], hp := [(1, .row ve 30 1 (es.map encI))], S := [], ws := w }) (fun k : Nat => k ≤ l.length) (fun k : Nat => l.length - k)
      (fun w' hw => ⟨0, Nat.zero_le _, Le.of rfl rfl ⟨rfl, rfl, rfl, rfl, rfl, trivial⟩, hw.keep [1] rfl rfl rfl, ⟨⟨_, _, _, rfl⟩, trivial⟩, ⟨(nopI _).okH, trivial⟩⟩) ?_
    intro k hk
    repeat refine At.seq ?_
    refine At.region tab_ok ?_
    conv => whnf
    refine ⟨h.sl, ?_⟩
    conv => whnf
    refine ⟨by simp only [gimp]; intros; trivial, ?_⟩
    conv => whnf
    repeat refine At.seq ?_
    refine At.cond rfl (fun hc => At.skip ?_) (fun hc => At.exit ?_)
    · have hlt : k < l.length := by simp only [band, Bool.and_eq_true, decide_eq_true_eq] at hc; omega
      obtain ⟨d, hd⟩ : ∃ d, l[k]? = some d := ⟨_, List.getElem?_eq_getElem hlt⟩
      obtain ⟨hu, hcells⟩ := hU k d hd
      obtain ⟨e1, e2⟩ := hat k d hd
      have hd8 := hsp d (List.mem_of_getElem? hd)
      have hspk : ∀ x ∈ l.take k, x.spans.length ≤ 8 := fun x hx => hsp x (List.mem_of_mem_take hx)
      have hspk1 : ∀ x ∈ l.take (k + 1), x.spans.length ≤ 8 := fun x hx => hsp x (List.mem_of_mem_take hx)
      have hg := good_lots _ (l.take k) rfl hspk
      have hlen := (lotsK_keeps _ (l.take k) rfl hspk).2.2
      have hlen1 := (lotsK_keeps _ (l.take (k + 1)) rfl hspk1).2.2
      simp only [List.length_take] at hlen hlen1
      obtain ⟨hg', he, hst⟩ := good_do (d := d) hg hd8
      repeat refine At.seq ?_
      refine At.block ?_
      repeat refine At.seq ?_
      refine At.region tab_ok ?_
      conv => whnf
      refine ⟨by omega, ?_⟩
      conv => whnf
      refine ⟨by omega, ?_⟩
      conv => whnf
      refine ⟨encD d (U k), fun w' hw => hcells w' hw.fr, ?_⟩
      conv => whnf
      intro b9
      conv => whnf
      refine ⟨hu.sl.one, ?_⟩
      conv => whnf
      repeat refine At.seq ?_
      refine At.region tab_ok ?_
      conv => whnf
      refine ⟨h.sl, ?_⟩
      conv => whnf
      refine ⟨by omega, ?_⟩
      conv => whnf
      refine ⟨by omega, ?_⟩
      conv => whnf
      refine ⟨by omega, ?_⟩
      conv => whnf
      refine ansR_call b26 (rd2 (nopL _) (nopI _)) (fun w' hw => lots_c (l.take k) [] _ w' ((h.fr hw.fr).begin rfl (by omega)) (by simp; omega) (lots_ok hspk (by simp; omega))) ?_
      intro vb
      conv => whnf
      intro vbe
      conv => whnf
      repeat refine At.seq ?_
      refine At.region tab_ok ?_
      conv => whnf
      refine ⟨⟨by omega, by omega⟩, ?_⟩
      conv => whnf
      refine ⟨h.sl, ?_⟩
      conv => whnf
      refine ⟨by omega, ?_⟩
      conv => whnf
      refine ⟨by omega, ?_⟩
      conv => whnf
      refine ⟨by omega, ?_⟩
      conv => whnf
      refine ansR_call b26 (rd2 (nopL _) (nopI _)) (fun w' hw => lots_c (l.take (k + 1)) [] _ w' ((h.fr hw.fr).begin (by omega) (by omega)) (by simp; omega) (lots_ok hspk1 (by simp; omega))) ?_
      rw [e1] at hlen1 ⊢
      intro vf
      conv => whnf
      intro vfe
      conv => whnf
      generalize (lotsK (l.take k)).1 = L at *
      generalize hdo : doB L d = D at *
      obtain ⟨L', er⟩ := D
      simp only at hlen1 hg' he hst e2 ⊢
      repeat refine At.seq ?_
      refine At.region tab_ok ?_
      conv => whnf
      refine ⟨rfl, ?_⟩
      conv => whnf
      refine ⟨by omega, ?_⟩
      conv => whnf
      refine ⟨by (try simp only [List.length_map]); omega, ?_⟩
      conv => whnf
      refine ⟨encI er, ⟨rfl, rfl, by omega, by rw [Int.toNat_natCast, List.getElem?_map, e2]; rfl⟩, ?_⟩
      conv => whnf
      repeat refine At.seq ?_
      refine At.cond rfl (fun hq => ?_) (fun hq => ?_)
      · have her : ¬ er = 0 := by simpa using hq
        have hsame : L' = L := by
          have := doB_refused (d := d) hg.mgd (by rw [hdo]; exact her)
          rw [hdo] at this; exact this
        subst hsame
        repeat refine At.seq ?_
        refine At.region tab_ok ?_
        conv => whnf
        refine ans_call b31 (r := .b true) rfl (fun w' hw => by
          have := sameLots_c L' L' [] [] vb vf w' (slL L' (hw.row (id := 3) rfl) (by omega)) (slL L' (hw.row (id := 5) rfl) (by omega))
          rw [decide_eq_true (rfl : L' = L')] at this
          exact this) ?_
        conv => whnf
        repeat refine At.seq ?_
        refine At.cond (t := false) rfl (fun hq => by cases hq) (fun hq => At.skip ?_)
        refine At.exit ?_
        repeat refine At.seq ?_
        refine At.region tab_ok ?_
        conv => whnf
        refine ⟨⟨by omega, by omega⟩, ?_⟩
        conv => whnf
        refine At.nextH fun w' hw => ⟨k + 1, by omega, by omega, Le.of rfl rfl ⟨rfl, rfl, rfl, rfl, rfl, trivial⟩, hw.keep [1] rfl rfl rfl, ⟨⟨_, _, _, rfl⟩, trivial⟩, ⟨(nopI _).okH, trivial⟩⟩
      · have her : er = 0 := by simpa using hq
        subst her
        have he := he.symm
        refine At.skip ?_
        repeat refine At.seq ?_
        refine At.join (fun u : Unit => { N := Try.f10.ntmps, sl := [(0, some (.x v)), (1, some (.i other)), (5, some (.b true)), (7, some (.s (.c (.o 1 ve)))), (8, some (.i k)), (9, some (.s (.c (.p 2 b9 0)))), (10, some (.s (.c (.o 3 vb)))), (12, some (.s (.c (.o 5 vf)))), (98, some (.b false))], gl := [], hp := [(5, .row vf 58 7 (L'.map encL)), (3, .row vb 58 7 (L.map encL)), (2, .box b9 54 (encD d (U k))), (1, .row ve 30 1 (es.map encI))], S := [], ws := w }) (fun u : Unit => True) ?_ ?_
        · repeat refine At.seq ?_
          refine At.regionG tab_ok ?_
          conv => whnf
          by_cases ho : other = d.author
          · rw [decide_eq_true ho]
            conv => whnf
            refine At.meet fun w' hw => ⟨(), trivial, Le.of rfl rfl ⟨rfl, rfl, rfl, rfl, rfl, rfl, rfl, rfl, rfl, trivial⟩, hw.keep [5, 3, 2, 1] rfl rfl rfl, ⟨⟨_, _, _, rfl⟩, ⟨_, _, rfl⟩, ⟨_, _, _, rfl⟩, ⟨_, _, _, rfl⟩, trivial⟩, ⟨(nopL _).okH, (nopL _).okH, (nopI _).okH, trivial⟩⟩
          rw [decide_eq_false ho]
          conv => whnf
          by_cases ho2 : other = d.who
          · rw [decide_eq_true ho2]
            conv => whnf
            refine At.meet fun w' hw => ⟨(), trivial, Le.of rfl rfl ⟨rfl, rfl, rfl, rfl, rfl, rfl, rfl, rfl, rfl, trivial⟩, hw.keep [5, 3, 2, 1] rfl rfl rfl, ⟨⟨_, _, _, rfl⟩, ⟨_, _, rfl⟩, ⟨_, _, _, rfl⟩, ⟨_, _, _, rfl⟩, trivial⟩, ⟨(nopL _).okH, (nopL _).okH, (nopI _).okH, trivial⟩⟩
          rw [decide_eq_false ho2]
          conv => whnf
          refine ansR_call b29 (rd1 (nopS _)) (fun w' hw => held_c L other [] vb w' (slL L (hw.row (id := 3) rfl) (by omega)) (by omega)) ?_
          intro v1
          conv => whnf
          refine ansR_call b29 (rd1 (nopS _)) (fun w' hw => held_c L' other [] vf w' (slL L' (hw.row (id := 5) rfl) (by omega)) (by omega)) ?_
          intro v2
          conv => whnf
          have hh1 := heldL_len L other
          have hh2 := heldL_len L' other
          have hho := others_held hg.ord hg'.ord hst he ho ho2
          refine ans_call b35 (r := .b true) rfl (fun w' hw => by
            have := sameSpans_c (heldL L other) (heldL L' other) [] [] v1 v2 w' (slS _ (hw.row (id := 7) rfl) (by omega)) (slS _ (hw.row (id := 8) rfl) (by omega))
            rw [decide_eq_true hho] at this
            exact this) ?_
          conv => whnf
          by_cases hk3 : d.kind = 3
          · rw [decide_eq_true hk3]
            conv => whnf
            refine At.meet fun w' hw => ⟨(), trivial, Le.of rfl rfl ⟨rfl, rfl, rfl, rfl, rfl, rfl, rfl, rfl, rfl, trivial⟩, hw.keep [5, 3, 2, 1] rfl rfl rfl, ⟨⟨_, _, _, rfl⟩, ⟨_, _, rfl⟩, ⟨_, _, _, rfl⟩, ⟨_, _, _, rfl⟩, trivial⟩, ⟨(nopL _).okH, (nopL _).okH, (nopI _).okH, trivial⟩⟩
          rw [decide_eq_false hk3]
          conv => whnf
          refine ansR_call b28 (rd1 (nopS _)) (fun w' hw => owned_c L other [] vb w' (slL L (hw.row (id := 3) rfl) (by omega)) (by omega)) ?_
          intro v3
          conv => whnf
          refine ansR_call b28 (rd1 (nopS _)) (fun w' hw => owned_c L' other [] vf w' (slL L' (hw.row (id := 5) rfl) (by omega)) (by omega)) ?_
          intro v4
          conv => whnf
          have hh3 := ownedL_len L other
          have hh4 := ownedL_len L' other
          have hoo := others_owned hg.ord hg'.ord hst he ho ho2 hk3
          refine ans_call b35 (r := .b true) rfl (fun w' hw => by
            have := sameSpans_c (ownedL L other) (ownedL L' other) [] [] v3 v4 w' (slS _ (hw.row (id := 9) rfl) (by omega)) (slS _ (hw.row (id := 10) rfl) (by omega))
            rw [decide_eq_true hoo] at this
            exact this) ?_
          conv => whnf
          refine At.meet fun w' hw => ⟨(), trivial, Le.of rfl rfl ⟨rfl, rfl, rfl, rfl, rfl, rfl, rfl, rfl, rfl, trivial⟩, hw.keep [5, 3, 2, 1] rfl rfl rfl, ⟨⟨_, _, _, rfl⟩, ⟨_, _, rfl⟩, ⟨_, _, _, rfl⟩, ⟨_, _, _, rfl⟩, trivial⟩, ⟨(nopL _).okH, (nopL _).okH, (nopI _).okH, trivial⟩⟩
        intro _ _
        repeat refine At.seq ?_
        refine At.cond (t := false) rfl (fun hq => by cases hq) (fun hq => At.skip ?_)
        repeat refine At.seq ?_
        refine At.region tab_ok ?_
        conv => whnf
        repeat refine At.seq ?_
        refine At.cond rfl (fun hq => ?_) (fun hq => ?_)
        · have hk0 : d.kind = 0 := of_decide_eq_true hq
          obtain ⟨t1, t2⟩ := took_held hg'.ord hst he hk0
          have hh1 := heldL_len L' d.author
          have hh2 := ownedL_len L' d.author
          repeat refine At.seq ?_
          refine At.planG tab_ok mixed [(5, .row vf 58 7 (L'.map encL)), (2, .box b9 54 (encD d (U k))), (1, .row ve 30 1 (es.map encI))] (.take 0 (.take 1 (.take 2 (.take 3 (.take 4 (.br 5 (.br 6 (.take 7 (.take 8 (.take 9 (.take 10 (.take 11 (.take 12 (.take 13 (.br 14 (.br 15 (.take 16 (.take 17 (.done))) (.nob)) (.nob))))))))) (.nob)) (.nob))))))) (by kernel_rfl) (by kernel_rfl) ⟨rfl, rfl, rfl, trivial⟩ ?_
          conv => whnf
          refine ⟨?_, trivial⟩
          conv => whnf
          refine ansR_call b29 (rd1 (nopS _)) (fun w' hw => held_c L' d.author [] vf w' (slL L' (hw.row (id := 5) rfl) (by omega)) (by omega)) ?_
          intro v1
          conv => whnf
          refine ⟨⟨⟨rfl, rfl, rfl, trivial⟩, fun w' hw => hw.fr⟩, ?_⟩
          conv => whnf
          refine ⟨?_, trivial⟩
          conv => whnf
          refine ans_call b40 (r := .b true) rfl (fun w' hw => by
            have := within_c d.spans (heldL L' d.author) [] [] (U k) v1 w' (hu.fr hw.fr) (slS _ (hw.row (id := 6) rfl) (by omega)) (by omega) (by omega)
            rw [decide_eq_true t1] at this
            exact this) ?_
          conv => whnf
          refine ⟨⟨⟨rfl, rfl, rfl, trivial⟩, fun w' hw => hw.fr⟩, ?_⟩
          conv => whnf
          refine ⟨?_, trivial⟩
          conv => whnf
          refine ansR_call b28 (rd1 (nopS _)) (fun w' hw => owned_c L' d.author [] vf w' (slL L' (hw.row (id := 5) rfl) (by omega)) (by omega)) ?_
          intro v2
          conv => whnf
          refine ⟨⟨⟨rfl, rfl, rfl, trivial⟩, fun w' hw => hw.fr⟩, ?_⟩
          conv => whnf
          refine ⟨?_, trivial⟩
          conv => whnf
          refine ans_call b40 (r := .b true) rfl (fun w' hw => by
            have := within_c d.spans (ownedL L' d.author) [] [] (U k) v2 w' (hu.fr hw.fr) (slS _ (hw.row (id := 7) rfl) (by omega)) (by omega) (by omega)
            rw [decide_eq_true t2] at this
            exact this) ?_
          conv => whnf
          refine ⟨⟨⟨rfl, rfl, rfl, trivial⟩, fun w' hw => hw.fr⟩, ?_⟩
          conv => whnf
          repeat refine At.seq ?_
          refine At.cond (t := false) rfl (fun hq => by cases hq) (fun hq => At.skip ?_)
          refine At.exit ?_
          repeat refine At.seq ?_
          refine At.region tab_ok ?_
          conv => whnf
          refine ⟨⟨by omega, by omega⟩, ?_⟩
          conv => whnf
          refine At.nextH fun w' hw => ⟨k + 1, by omega, by omega, Le.of rfl rfl ⟨rfl, rfl, rfl, rfl, rfl, trivial⟩, hw.keep [1] rfl rfl rfl, ⟨⟨_, _, _, rfl⟩, trivial⟩, ⟨(nopI _).okH, trivial⟩⟩
        · have hk0 : ¬ d.kind = 0 := of_decide_eq_false hq
          refine At.skip ?_
          have t1 := gave_held hg.ord he hk0
          have t2 := gone_held hg'.ord hst he hk0
          have hh1 := heldL_len L d.author
          have hh2 := heldL_len L' d.author
          repeat refine At.seq ?_
          refine At.planG tab_ok mixed [(5, .row vf 58 7 (L'.map encL)), (3, .row vb 58 7 (L.map encL)), (2, .box b9 54 (encD d (U k))), (1, .row ve 30 1 (es.map encI))] (.take 0 (.take 1 (.take 2 (.take 3 (.take 4 (.br 5 (.br 6 (.take 7 (.take 8 (.take 9 (.take 10 (.take 11 (.take 12 (.take 13 (.br 14 (.br 15 (.br 16 (.take 17 (.take 18 (.done))) (.nob)) (.nob)) (.nob))))))))) (.nob)) (.nob))))))) (by kernel_rfl) (by kernel_rfl) ⟨rfl, rfl, rfl, rfl, trivial⟩ ?_
          conv => whnf
          refine ⟨?_, trivial⟩
          conv => whnf
          refine ansR_call b29 (rd1 (nopS _)) (fun w' hw => held_c L d.author [] vb w' (slL L (hw.row (id := 3) rfl) (by omega)) (by omega)) ?_
          intro v1
          conv => whnf
          refine ⟨⟨⟨rfl, rfl, rfl, rfl, trivial⟩, fun w' hw => hw.fr⟩, ?_⟩
          conv => whnf
          refine ⟨?_, trivial⟩
          conv => whnf
          refine ans_call b40 (r := .b true) rfl (fun w' hw => by
            have := within_c d.spans (heldL L d.author) [] [] (U k) v1 w' (hu.fr hw.fr) (slS _ (hw.row (id := 6) rfl) (by omega)) (by omega) (by omega)
            rw [decide_eq_true t1] at this
            exact this) ?_
          conv => whnf
          refine ⟨⟨⟨rfl, rfl, rfl, rfl, trivial⟩, fun w' hw => hw.fr⟩, ?_⟩
          conv => whnf
          refine ⟨?_, trivial⟩
          conv => whnf
          refine ansR_call b29 (rd1 (nopS _)) (fun w' hw => held_c L' d.author [] vf w' (slL L' (hw.row (id := 5) rfl) (by omega)) (by omega)) ?_
          intro v2
          conv => whnf
          refine ⟨⟨⟨rfl, rfl, rfl, rfl, trivial⟩, fun w' hw => hw.fr⟩, ?_⟩
          conv => whnf
          refine ⟨?_, trivial⟩
          conv => whnf
          refine ansR_call b41 (rd1 (nopS _)) (fun w' hw => common_c d.spans (heldL L' d.author) [] [] (U k) v2 w' (hu.fr hw.fr) (slS _ (hw.row (id := 7) rfl) (by omega)) (by omega) (by omega)) ?_
          rw [List.eq_nil_of_length_eq_zero t2]
          intro v3
          conv => whnf
          refine ⟨⟨⟨rfl, rfl, rfl, rfl, trivial⟩, fun w' hw => hw.fr⟩, ?_⟩
          conv => whnf
          refine ⟨?_, trivial⟩
          conv => whnf
          refine ⟨rfl, ?_⟩
          conv => whnf
          refine ⟨⟨⟨rfl, rfl, rfl, rfl, trivial⟩, fun w' hw => hw.fr⟩, ?_⟩
          conv => whnf
          repeat refine At.seq ?_
          refine At.cond (t := false) rfl (fun hq => by cases hq) (fun hq => At.skip ?_)
          repeat refine At.seq ?_
          refine At.join (fun u : Unit => { N := Try.f10.ntmps, sl := [(0, some (.x v)), (1, some (.i other)), (5, some (.b true)), (7, some (.s (.c (.o 1 ve)))), (8, some (.i k)), (181, some (.b false))], gl := [], hp := [(1, .row ve 30 1 (es.map encI))], S := [], ws := w }) (fun u : Unit => True) ?_ ?_
          · repeat refine At.seq ?_
            refine At.planG tab_ok mixed [(5, .row vf 58 7 (L'.map encL)), (2, .box b9 54 (encD d (U k))), (1, .row ve 30 1 (es.map encI))] (.take 0 (.take 1 (.take 2 (.take 3 (.take 4 (.take 5 (.take 6 (.take 7 (.take 8 (.br 9 (.br 10 (.take 11 (.take 12 (.take 13 (.take 14 (.take 15 (.take 16 (.take 17 (.take 18 (.take 19 (.take 20 (.take 21 (.take 22 (.br 23 (.br 24 (.take 25 (.take 26 (.take 27 (.take 28 (.take 29 (.take 30 (.take 31 (.take 32 (.take 33 (.take 34 (.take 35 (.take 36 (.take 37 (.br 38 (.br 39 (.take 40 (.take 41 (.take 42 (.done)))) (.nob)) (.nob))))))))))))))) (.nob)) (.nob)))))))))))))) (.nob)) (.nob))))))))))) (by kernel_rfl) (by kernel_rfl) ⟨rfl, rfl, rfl, trivial⟩ ?_
            conv => whnf
            by_cases hk3 : d.kind = 3
            · have e1 : decide (d.kind = 1) = false := decide_eq_false (by omega)
              have e2 : decide (d.kind = 2) = false := decide_eq_false (by omega)
              rw [decide_eq_true hk3]
              conv => whnf
              refine ⟨?_, trivial⟩
              conv => whnf
              refine ⟨⟨⟨rfl, rfl, rfl, trivial⟩, fun w' hw => hw.fr⟩, ?_⟩
              conv => whnf
              refine ⟨?_, trivial⟩
              conv => whnf
              refine ⟨⟨⟨rfl, rfl, rfl, trivial⟩, fun w' hw => hw.fr⟩, ?_⟩
              conv => whnf
              rw [e1]
              conv => whnf
              refine ⟨?_, trivial⟩
              conv => whnf
              refine ⟨⟨⟨rfl, rfl, rfl, trivial⟩, fun w' hw => hw.fr⟩, ?_⟩
              conv => whnf
              refine ⟨?_, trivial⟩
              conv => whnf
              refine ⟨⟨⟨rfl, rfl, rfl, trivial⟩, fun w' hw => hw.fr⟩, ?_⟩
              conv => whnf
              rw [e2]
              conv => whnf
              refine ⟨?_, trivial⟩
              conv => whnf
              refine ⟨⟨⟨rfl, rfl, rfl, trivial⟩, fun w' hw => hw.fr⟩, ?_⟩
              conv => whnf
              refine ⟨?_, trivial⟩
              conv => whnf
              refine ⟨⟨⟨rfl, rfl, rfl, trivial⟩, fun w' hw => hw.fr⟩, ?_⟩
              conv => whnf
              refine At.meet fun w' hw => ⟨(), trivial, Le.of rfl rfl ⟨rfl, rfl, rfl, rfl, rfl, rfl, trivial⟩, hw.keep [1] rfl rfl rfl, ⟨⟨_, _, _, rfl⟩, trivial⟩, ⟨(nopI _).okH, trivial⟩⟩
            · have t3 := got_held hg'.ord hst he hk0 hk3
              have hh3 := heldL_len L' d.who
              rw [decide_eq_false hk3]
              conv => whnf
              refine ⟨?_, trivial⟩
              conv => whnf
              refine ansR_call b29 (rd1 (nopS _)) (fun w' hw => held_c L' d.who [] vf w' (slL L' (hw.row (id := 5) rfl) (by omega)) (by omega)) ?_
              intro v1
              conv => whnf
              refine ⟨⟨⟨rfl, rfl, rfl, trivial⟩, fun w' hw => hw.fr⟩, ?_⟩
              conv => whnf
              refine ⟨?_, trivial⟩
              conv => whnf
              refine ans_call b40 (r := .b true) rfl (fun w' hw => by
                have := within_c d.spans (heldL L' d.who) [] [] (U k) v1 w' (hu.fr hw.fr) (slS _ (hw.row (id := 9) rfl) (by omega)) (by omega) (by omega)
                rw [decide_eq_true t3] at this
                exact this) ?_
              conv => whnf
              refine ⟨⟨⟨rfl, rfl, rfl, trivial⟩, fun w' hw => hw.fr⟩, ?_⟩
              conv => whnf
              by_cases hk1 : d.kind = 1
              · have e2 : decide (d.kind = 2) = false := decide_eq_false (by omega)
                have t4 := got_owned hg'.ord hst he hk1
                have hh4 := ownedL_len L' d.who
                rw [decide_eq_true hk1]
                conv => whnf
                refine ⟨?_, trivial⟩
                conv => whnf
                refine ansR_call b28 (rd1 (nopS _)) (fun w' hw => owned_c L' d.who [] vf w' (slL L' (hw.row (id := 5) rfl) (by omega)) (by omega)) ?_
                intro v2
                conv => whnf
                refine ⟨⟨⟨rfl, rfl, rfl, trivial⟩, fun w' hw => hw.fr⟩, ?_⟩
                conv => whnf
                refine ⟨?_, trivial⟩
                conv => whnf
                refine ans_call b40 (r := .b true) rfl (fun w' hw => by
                  have := within_c d.spans (ownedL L' d.who) [] [] (U k) v2 w' (hu.fr hw.fr) (slS _ (hw.row (id := 10) rfl) (by omega)) (by omega) (by omega)
                  rw [decide_eq_true t4] at this
                  exact this) ?_
                conv => whnf
                refine ⟨⟨⟨rfl, rfl, rfl, trivial⟩, fun w' hw => hw.fr⟩, ?_⟩
                conv => whnf
                rw [e2]
                conv => whnf
                refine ⟨?_, trivial⟩
                conv => whnf
                refine ⟨⟨⟨rfl, rfl, rfl, trivial⟩, fun w' hw => hw.fr⟩, ?_⟩
                conv => whnf
                refine ⟨?_, trivial⟩
                conv => whnf
                refine ⟨⟨⟨rfl, rfl, rfl, trivial⟩, fun w' hw => hw.fr⟩, ?_⟩
                conv => whnf
                refine At.meet fun w' hw => ⟨(), trivial, Le.of rfl rfl ⟨rfl, rfl, rfl, rfl, rfl, rfl, trivial⟩, hw.keep [1] rfl rfl rfl, ⟨⟨_, _, _, rfl⟩, trivial⟩, ⟨(nopI _).okH, trivial⟩⟩
              · have hk2 : d.kind = 2 := by have := right_kind (err_right he); omega
                have t4 := lent_owned hg'.ord hst he hk2
                rw [decide_eq_false hk1]
                conv => whnf
                refine ⟨?_, trivial⟩
                conv => whnf
                refine ⟨⟨⟨rfl, rfl, rfl, trivial⟩, fun w' hw => hw.fr⟩, ?_⟩
                conv => whnf
                refine ⟨?_, trivial⟩
                conv => whnf
                refine ⟨⟨⟨rfl, rfl, rfl, trivial⟩, fun w' hw => hw.fr⟩, ?_⟩
                conv => whnf
                have hh4 := ownedL_len L' d.author
                rw [decide_eq_true hk2]
                conv => whnf
                refine ⟨?_, trivial⟩
                conv => whnf
                refine ansR_call b28 (rd1 (nopS _)) (fun w' hw => owned_c L' d.author [] vf w' (slL L' (hw.row (id := 5) rfl) (by omega)) (by omega)) ?_
                intro v2
                conv => whnf
                refine ⟨⟨⟨rfl, rfl, rfl, trivial⟩, fun w' hw => hw.fr⟩, ?_⟩
                conv => whnf
                refine ⟨?_, trivial⟩
                conv => whnf
                refine ans_call b40 (r := .b true) rfl (fun w' hw => by
                  have := within_c d.spans (ownedL L' d.author) [] [] (U k) v2 w' (hu.fr hw.fr) (slS _ (hw.row (id := 10) rfl) (by omega)) (by omega) (by omega)
                  rw [decide_eq_true t4] at this
                  exact this) ?_
                conv => whnf
                refine ⟨⟨⟨rfl, rfl, rfl, trivial⟩, fun w' hw => hw.fr⟩, ?_⟩
                conv => whnf
                refine At.meet fun w' hw => ⟨(), trivial, Le.of rfl rfl ⟨rfl, rfl, rfl, rfl, rfl, rfl, trivial⟩, hw.keep [1] rfl rfl rfl, ⟨⟨_, _, _, rfl⟩, trivial⟩, ⟨(nopI _).okH, trivial⟩⟩
          intro _ _
          repeat refine At.seq ?_
          refine At.cond (t := false) rfl (fun hq => by cases hq) (fun hq => At.skip ?_)
          repeat refine At.seq ?_
          refine At.region tab_ok ?_
          conv => whnf
          refine ⟨⟨by omega, by omega⟩, ?_⟩
          conv => whnf
          refine At.nextH fun w' hw => ⟨k + 1, by omega, by omega, Le.of rfl rfl ⟨rfl, rfl, rfl, rfl, rfl, trivial⟩, hw.keep [1] rfl rfl rfl, ⟨⟨_, _, _, rfl⟩, trivial⟩, ⟨(nopI _).okH, trivial⟩⟩
    · have hge : k = l.length := by simp only [band, Bool.and_eq_false_iff, decide_eq_false_iff_not] at hc; simp at hc; omega
      repeat refine At.seq ?_
      refine At.region tab_ok ?_
      conv => whnf
      refine ⟨by simp only [gimp]; intros; trivial, ?_⟩
      conv => whnf
      refine ⟨by simp only [gimp]; intros; exact h.sl, ?_⟩
      conv => whnf
      repeat refine At.seq ?_
      refine At.ret (At.doneB tab_ok hB _ rfl fun w' hw => ⟨?_, hw.fr⟩)
      simp [RV.den, SV.den, CV.den, hes, hl]
end Go.Proofs.Ytjilbkioieicbaa

/- The law RightsTells: its call, and an opener of lots. -/
namespace Go.Proofs.Ytjilbkioieicbaa
open Go.Vc Rt
set_option linter.unusedVariables false
set_option linter.unusedSimpArgs false
theorem tells_c (l : List Deed) (X : List Lot) (key : Int) (v y : Value) (w : World) (h : SlOf deT [] w v l) (hX : SlOf loT [] w y X) : Ans Try.prog 8 [v, y, vI key] (.b true) w := by
  have hl := h.len
  have hXl := hX.len
  obtain ⟨U, hU⟩ := slices_of h
  refine calls_plainB [.x v, .x y, .i key] Try.func8 rfl rfl (Nat.le_of_ble_eq_true rfl) rfl fun B hB => ?_
  repeat refine At.seq ?_
  refine At.region tab_ok ?_
  conv => whnf
  repeat refine At.seq ?_
  refine At.region tab_ok ?_
  conv => whnf
  refine ans_call b24 rfl (fun w' hw => small27_c w') ?_
  conv => whnf
  repeat refine At.seq ?_
  refine At.regionG tab_ok ?_
  conv => whnf
  refine ans_call b25 rfl (fun w' hw => few_c l 16 [] v w' (h.fr hw.fr)) ?_
  conv => whnf
  cases hfew : few l 16
  · conv => whnf
    repeat refine At.seq ?_
    refine At.cond (t := true) rfl (fun hq => ?_) (fun hq => by cases hq)
    repeat refine At.seq ?_
    refine At.region tab_ok ?_
    conv => whnf
    repeat refine At.seq ?_
    refine At.ret (At.doneB tab_ok hB _ rfl fun w' hw => ⟨rfl, hw.fr⟩)
  conv => whnf
  refine ⟨hX.sl, ?_⟩
  conv => whnf
  repeat refine At.seq ?_
  refine At.cond rfl (fun hq => ?_) (fun hq => ?_)
  · repeat refine At.seq ?_
    refine At.region tab_ok ?_
    conv => whnf
    repeat refine At.seq ?_
    refine At.ret (At.doneB tab_ok hB _ rfl fun w' hw => ⟨rfl, hw.fr⟩)
  have hX20 : X.length ≤ 20 := by have := of_decide_eq_false hq; omega
  refine At.skip ?_
  obtain ⟨hn, hsp⟩ := few_spec hfew
  have hn : l.length ≤ 16 := by omega
  have hes := lotsK_errs l
  have hlenAll := (lotsK_keeps _ l rfl hsp).2.2
  have hspk : ∀ k, ∀ x ∈ l.take k, x.spans.length ≤ 8 := fun k x hx => hsp x (List.mem_of_mem_take hx)
  have hlenk : ∀ k, (lotsK (l.take k)).1.length ≤ 700000 := fun k => by
    have := (lotsK_keeps _ (l.take k) rfl (hspk k)).2.2
    simp only [List.length_take] at this
    omega
  repeat refine At.seq ?_
  refine At.region tab_ok ?_
  conv => whnf
  refine ansR_call b26 (rd2 (nopL _) (nopI _)) (fun w' hw => lots_c l [] v w' (h.fr hw.fr) (by omega) (lots_ok hsp (by omega))) ?_
  intro va
  conv => whnf
  intro ve
  conv => whnf
  repeat refine At.seq ?_
  refine At.region tab_ok ?_
  conv => whnf
  refine ansR_call b32 (rd2 (nopL _) (nopI _)) (fun w' hw => lotsR_c l [] v w' (h.fr hw.fr) (by omega) hsp hlenk) ?_
  intro vb
  conv => whnf
  intro vf
  conv => whnf
  repeat refine At.seq ?_
  refine At.region tab_ok ?_
  conv => whnf
  repeat refine At.seq ?_
  refine At.block ?_
  refine At.loopH (fun k : Nat => { N := Try.f8.ntmps, sl := [(0, some (.x v)), (1, some (.x y)), (2, some (.i key)), (7, some (.b true)), (8, some (.s (.c (.o 0 va)))), (9, some (.s (.c (.o 1 ve)))), (10, some (.s (.c (.o 2 vb)))), (11, some (.s (.c (.o 3 vf)))), (12, some (.i k))], gl := [], hp := [(3, .row vf 30 1 ((lotsK l).2.map encI)), (2, .row vb 58 7 ((lotsK l).1.map encL)), (1, .row ve 30 1 ((lotsK l).2.map encI)), (0, .row va 58 7 ((lotsK l).1.map encL))], S := [], ws := w }) (fun k : Nat => k ≤ l.length) (fun k : Nat => l.length - k)
    (fun w' hw => ⟨0, Nat.zero_le _, Le.of rfl rfl ⟨rfl, rfl, rfl, rfl, rfl, rfl, rfl, rfl, rfl, trivial⟩, hw.keep [3, 2, 1, 0] rfl rfl rfl, ⟨⟨_, _, _, rfl⟩, ⟨_, _, _, rfl⟩, ⟨_, _, _, rfl⟩, ⟨_, _, _, rfl⟩, trivial⟩, ⟨(nopI _).okH, (nopL _).okH, (nopI _).okH, (nopL _).okH, trivial⟩⟩) ?_
  intro k hk
  repeat refine At.seq ?_
  refine At.region tab_ok ?_
  conv => whnf
  refine ⟨h.sl, ?_⟩
  conv => whnf
  repeat refine At.seq ?_
  refine At.cond rfl (fun hc => At.skip ?_) (fun hc => At.exit ?_)
  · have hltd : k < l.length := by have := of_decide_eq_true hc; (try simp only [List.length_map] at this); omega
    obtain ⟨d, hd⟩ : ∃ x, l[k]? = some x := ⟨_, List.getElem?_eq_getElem hltd⟩
    obtain ⟨hu, hcells⟩ := hU k d hd
    have hdo := lots_ok hsp (by omega) k d hd
    have hlk := hlenk k
    have hlk1 := hlenk (k + 1)
    have hsn : lotsK (l.take (k + 1)) = ((doB (lotsK (l.take k)).1 d).1, (lotsK (l.take k)).2 ++ [(doB (lotsK (l.take k)).1 d).2]) := by rw [List.take_add_one, hd]; exact lotsK_snoc _ _
    have hel := lotsK_errs (l.take k)
    rw [List.length_take] at hel
    repeat refine At.seq ?_
    refine At.block ?_
    repeat refine At.seq ?_
    refine At.region tab_ok ?_
    conv => whnf
    refine ⟨h.sl, ?_⟩
    conv => whnf
    refine ⟨by omega, ?_⟩
    conv => whnf
    refine ⟨by omega, ?_⟩
    conv => whnf
    refine ⟨by omega, ?_⟩
    conv => whnf
    refine ansR_call b26 (rd2 (nopL _) (nopI _)) (fun w' hw => lots_c (l.take k) [] _ w' ((h.fr hw.fr).begin rfl (by omega)) (by simp; omega) (lots_ok (hspk k) (by simp; omega))) ?_
    intro v1
    conv => whnf
    intro v2
    conv => whnf
    repeat refine At.seq ?_
    refine At.region tab_ok ?_
    conv => whnf
    refine ⟨by omega, ?_⟩
    conv => whnf
    refine ⟨by omega, ?_⟩
    conv => whnf
    refine ⟨encD d (U k), fun w' hw => hcells w' hw.fr, ?_⟩
    conv => whnf
    refine ansR_call b33 (rdP (nopL _)) (fun w' hw => rdo_c (lotsK (l.take k)).1 d v1 (U k) w' (slL _ (hw.row (id := 4) rfl) (by omega)) (hu.fr hw.fr) (by omega) hdo) ?_
    intro v3
    conv => whnf
    repeat refine At.seq ?_
    refine At.region tab_ok ?_
    conv => whnf
    refine ⟨⟨by omega, by omega⟩, ?_⟩
    conv => whnf
    refine ⟨h.sl, ?_⟩
    conv => whnf
    refine ⟨by omega, ?_⟩
    conv => whnf
    refine ⟨by omega, ?_⟩
    conv => whnf
    refine ⟨by omega, ?_⟩
    conv => whnf
    refine ansR_call b32 (rd2 (nopL _) (nopI _)) (fun w' hw => lotsR_c (l.take (k + 1)) [] _ w' ((h.fr hw.fr).begin (by omega) (by omega)) (by simp; omega) (hspk (k + 1)) (fun j => by rw [List.take_take]; exact hlenk _)) ?_
    rw [hsn] at hlk1 ⊢
    intro v4
    conv => whnf
    intro v5
    conv => whnf
    generalize (lotsK (l.take k)).1 = L at *
    generalize (lotsK (l.take k)).2 = es at *
    generalize hD : doB L d = D at *
    obtain ⟨L', er⟩ := D
    simp only at hlk hlk1 hel ⊢
    repeat refine At.seq ?_
    refine At.regionG tab_ok ?_
    conv => whnf
    refine ⟨rfl, ?_⟩
    conv => whnf
    refine ⟨⟨by omega, by omega⟩, ?_⟩
    conv => whnf
    rw [decide_eq_true (show (((es ++ [er]).map encI).length : Int) = k + 1 by simp; omega)]
    conv => whnf
    refine ans_call b31 (r := .b true) rfl (fun w' hw => by
      have := sameLots_c L' L' [] [] v3 v4 w' (slL L' (hw.row (id := 6) rfl) (by omega)) (slL L' (hw.row (id := 7) rfl) (by omega))
      rw [decide_eq_true (rfl : L' = L')] at this
      exact this) ?_
    conv => whnf
    have he2 : (es ++ [er])[k]? = some er := by rw [List.getElem?_append_right (by omega), show k - es.length = 0 by omega]; rfl
    refine ⟨rfl, ?_⟩
    conv => whnf
    refine ⟨by omega, ?_⟩
    conv => whnf
    refine ⟨by simp; omega, ?_⟩
    conv => whnf
    refine ⟨encI er, ⟨rfl, rfl, by omega, by rw [Int.toNat_natCast, List.getElem?_map, he2]; rfl⟩, ?_⟩
    conv => whnf
    rw [decide_eq_true (rfl : er = er)]
    conv => whnf
    repeat refine At.seq ?_
    refine At.cond (t := false) rfl (fun hq => by cases hq) (fun hq => At.skip ?_)
    repeat refine At.seq ?_
    refine At.region tab_ok ?_
    conv => whnf
    refine ⟨⟨by omega, by omega⟩, ?_⟩
    conv => whnf
    refine At.nextH fun w' hw => ⟨k + 1, by omega, by omega, Le.of rfl rfl ⟨rfl, rfl, rfl, rfl, rfl, rfl, rfl, rfl, rfl, trivial⟩, hw.keep [3, 2, 1, 0] rfl rfl rfl, ⟨⟨_, _, _, rfl⟩, ⟨_, _, _, rfl⟩, ⟨_, _, _, rfl⟩, ⟨_, _, _, rfl⟩, trivial⟩, ⟨(nopI _).okH, (nopL _).okH, (nopI _).okH, (nopL _).okH, trivial⟩⟩
  generalize hLE : lotsK l = q at *
  obtain ⟨L, es⟩ := q
  simp only at hes hlenAll ⊢
  repeat refine At.seq ?_
  refine At.regionG tab_ok ?_
  conv => whnf
  refine ans_call b31 (r := .b true) rfl (fun w' hw => by
    have := sameLots_c L L [] [] va vb w' (slL L (hw.row (id := 0) rfl) (by omega)) (slL L (hw.row (id := 2) rfl) (by omega))
    rw [decide_eq_true (rfl : L = L)] at this
    exact this) ?_
  conv => whnf
  refine ans_call b34 (r := .b true) rfl (fun w' hw => by
    have := sameErrs_c es es [] [] ve vf w' (slI es (hw.row (id := 1) rfl) (by omega)) (slI es (hw.row (id := 3) rfl) (by omega))
    rw [decide_eq_true (rfl : es = es)] at this
    exact this) ?_
  conv => whnf
  refine ansR_call b28 (rd1 (nopS _)) (fun w' hw => owned_c L key [] va w' (slL L (hw.row (id := 0) rfl) (by omega)) (by omega)) ?_
  intro u4
  conv => whnf
  refine ansR_call b36 (rd1 (nopS _)) (fun w' hw => ownedR_c L key [] vb w' (slL L (hw.row (id := 2) rfl) (by omega)) (by omega)) ?_
  intro u5
  conv => whnf
  refine ans_call b35 (r := .b true) rfl (fun w' hw => by
    have hq1 := norm_len (openL (fun l => decide (l.o = key)) L)
    have hq2 := openL_len (fun l => decide (l.o = key)) L
    have := sameSpans_c (norm (openL (fun l => decide (l.o = key)) L)) (norm (openL (fun l => decide (l.o = key)) L)) [] [] u4 u5 w' (slS _ (hw.row (id := 4) rfl) (by omega)) (slS _ (hw.row (id := 5) rfl) (by omega))
    rw [decide_eq_true (rfl : (norm (openL (fun l => decide (l.o = key)) L)) = (norm (openL (fun l => decide (l.o = key)) L)))] at this
    exact this) ?_
  conv => whnf
  refine ansR_call b29 (rd1 (nopS _)) (fun w' hw => held_c L key [] va w' (slL L (hw.row (id := 0) rfl) (by omega)) (by omega)) ?_
  intro u6
  conv => whnf
  refine ansR_call b37 (rd1 (nopS _)) (fun w' hw => heldR_c L key [] vb w' (slL L (hw.row (id := 2) rfl) (by omega)) (by omega)) ?_
  intro u7
  conv => whnf
  refine ans_call b35 (r := .b true) rfl (fun w' hw => by
    have hq1 := norm_len (openL (fun l => decide (l.h = key)) L)
    have hq2 := openL_len (fun l => decide (l.h = key)) L
    have := sameSpans_c (norm (openL (fun l => decide (l.h = key)) L)) (norm (openL (fun l => decide (l.h = key)) L)) [] [] u6 u7 w' (slS _ (hw.row (id := 6) rfl) (by omega)) (slS _ (hw.row (id := 7) rfl) (by omega))
    rw [decide_eq_true (rfl : (norm (openL (fun l => decide (l.h = key)) L)) = (norm (openL (fun l => decide (l.h = key)) L)))] at this
    exact this) ?_
  conv => whnf
  repeat refine At.seq ?_
  refine At.regionG tab_ok ?_
  conv => whnf
  refine ansR_call b28 (rd1 (nopS _)) (fun w' hw => owned_c X key [] y w' (hX.fr hw.fr) (by omega)) ?_
  intro u8
  conv => whnf
  refine ansR_call b36 (rd1 (nopS _)) (fun w' hw => ownedR_c X key [] y w' (hX.fr hw.fr) (by omega)) ?_
  intro u9
  conv => whnf
  refine ans_call b35 (r := .b true) rfl (fun w' hw => by
    have hq1 := norm_len (openL (fun l => decide (l.o = key)) X)
    have hq2 := openL_len (fun l => decide (l.o = key)) X
    have := sameSpans_c (norm (openL (fun l => decide (l.o = key)) X)) (norm (openL (fun l => decide (l.o = key)) X)) [] [] u8 u9 w' (slS _ (hw.row (id := 8) rfl) (by omega)) (slS _ (hw.row (id := 9) rfl) (by omega))
    rw [decide_eq_true (rfl : (norm (openL (fun l => decide (l.o = key)) X)) = (norm (openL (fun l => decide (l.o = key)) X)))] at this
    exact this) ?_
  conv => whnf
  refine ansR_call b29 (rd1 (nopS _)) (fun w' hw => held_c X key [] y w' (hX.fr hw.fr) (by omega)) ?_
  intro u10
  conv => whnf
  refine ansR_call b37 (rd1 (nopS _)) (fun w' hw => heldR_c X key [] y w' (hX.fr hw.fr) (by omega)) ?_
  intro u11
  conv => whnf
  refine ans_call b35 (r := .b true) rfl (fun w' hw => by
    have hq1 := norm_len (openL (fun l => decide (l.h = key)) X)
    have hq2 := openL_len (fun l => decide (l.h = key)) X
    have := sameSpans_c (norm (openL (fun l => decide (l.h = key)) X)) (norm (openL (fun l => decide (l.h = key)) X)) [] [] u10 u11 w' (slS _ (hw.row (id := 10) rfl) (by omega)) (slS _ (hw.row (id := 11) rfl) (by omega))
    rw [decide_eq_true (rfl : (norm (openL (fun l => decide (l.h = key)) X)) = (norm (openL (fun l => decide (l.h = key)) X)))] at this
    exact this) ?_
  conv => whnf
  have hcn : ∀ Y : List Span, count (norm Y) = count Y := fun Y => by rw [count_norm]; rfl
  repeat refine At.seq ?_
  refine At.regionG tab_ok ?_
  conv => whnf
  refine ans_call b30 rfl (fun w' hw => sum_c X [] y w' (hX.fr hw.fr) (by omega)) ?_
  conv => whnf
  refine ans_call b38 rfl (fun w' hw => sumR_c X [] y w' (hX.fr hw.fr) (by omega)) ?_
  conv => whnf
  rw [decide_eq_true (hcn (openL (fun _ => true) X))]
  conv => whnf
  refine ans_call b30 rfl (fun w' hw => sum_c L [] va w' (slL L (hw.row (id := 0) rfl) (by omega)) (by omega)) ?_
  conv => whnf
  refine ans_call b38 rfl (fun w' hw => sumR_c L [] vb w' (slL L (hw.row (id := 2) rfl) (by omega)) (by omega)) ?_
  conv => whnf
  rw [decide_eq_true (hcn (openL (fun _ => true) L))]
  conv => whnf
  repeat refine At.seq ?_
  refine At.ret (At.doneB tab_ok hB _ rfl fun w' hw => ⟨rfl, hw.fr⟩)
end Go.Proofs.Ytjilbkioieicbaa

/- An opener of lots. -/
namespace Go.Proofs.Ytjilbkioieicbaa
open Go.Vc Rt
set_option linter.unusedVariables false
set_option linter.unusedSimpArgs false
section
variable {H : Type} {enc : TypeId × Value → H} {w : World} {spare : Nat → Bool} {held : Bool}
theorem c58 : Try.prog.cellsOf 58 = 7 := by kernel_rfl
theorem f58 : (Try.prog.fieldsOf 58).toList.map (fun f => (f.type, f.offset)) = [(56, 0), (3, 3), (3, 4), (3, 5), (3, 6)] := by kernel_rfl
theorem len7 {α : Type} : ∀ {l : List α}, l.length = 7 → ∃ a b c p q r t, l = [a, b, c, p, q, r, t]
  | [a, b, c, p, q, r, t], _ => ⟨a, b, c, p, q, r, t, rfl⟩
theorem lot_open {fuel : Nat} {cs : List Value} {x : DataW H × List MemPlace} (h : DataW.trod enc Try.prog w 0 spare held fuel 58 cs = some x) : ∃ (s : Lot) (l : List CV), loT.rel [] w s l ∧ dens l = cs := by
  obtain ⟨xs, n, _, _, hl, hxl, hget⟩ := DataW.trod_struct u58 h
  rw [c58] at hl
  have get : ∀ (i t o : Nat), [(56, 0), (3, 3), (3, 4), (3, 5), (3, 6)][i]? = some (t, o) → ∃ y, DataW.trod enc Try.prog w 0 spare held n t ((cs.drop o).take (Try.prog.cellsOf t)) = some y := fun i t o hi => by
    have hfi : ((Try.prog.fieldsOf 58).toList.map (fun f => (f.type, f.offset)))[i]? = some (t, o) := by rw [f58]; exact hi
    rw [List.getElem?_map] at hfi
    obtain ⟨f, hf1, hf2⟩ := Option.map_eq_some_iff.1 hfi
    simp only [Prod.mk.injEq] at hf2
    obtain ⟨e1, e2⟩ := hf2
    have := hget i f (by simpa using hf1)
    rw [e1, e2] at this
    have hi' : i < xs.length := by have := (List.getElem?_eq_some_iff.1 hf1).1; rw [hxl]; simpa using this
    rw [List.getElem?_eq_getElem hi'] at this
    exact ⟨_, this⟩
  clear h hget hxl
  obtain ⟨a, b, c, p, q, r, t, rfl⟩ := len7 hl
  obtain ⟨_, t0⟩ := get 0 56 0 rfl
  obtain ⟨_, t1⟩ := get 1 3 3 rfl
  obtain ⟨_, t2⟩ := get 2 3 4 rfl
  obtain ⟨_, t3⟩ := get 3 3 5 rfl
  obtain ⟨_, t4⟩ := get 4 3 6 rfl
  rw [c56] at t0
  rw [c3] at t1 t2 t3 t4
  obtain ⟨s, ls, hs, hd⟩ := span_open t0
  obtain ⟨n1, q1, _⟩ := DataW.trod_int u3 t1
  obtain ⟨n2, q2, _⟩ := DataW.trod_int u3 t2
  obtain ⟨n3, q3, _⟩ := DataW.trod_int u3 t3
  obtain ⟨n4, q4, _⟩ := DataW.trod_int u3 t4
  simp at q1 q2 q3 q4
  subst q1 q2 q3 q4
  have hs : ls = encS s := hs
  subst hs
  simp at hd
  refine ⟨⟨s, n1, n2, n3, n4⟩, _, rfl, ?_⟩
  have : dens (encL ⟨s, n1, n2, n3, n4⟩) = dens (encS s) ++ [.int .i64 n1, .int .i64 n2, .int .i64 n3, .int .i64 n4] := rfl
  rw [this, hd]
  rfl
theorem lots_open {v : Value} {d : DataW H} {ps : List MemPlace} (hs : ∃ a n c, v = .slice a n c) (h : DataW.Trod enc Try.prog w 0 spare held 47 v d ps) : ∃ l, SlOf loT [] w v l := by
  obtain ⟨a, n, c, rfl⟩ := hs
  obtain ⟨fuel, hf⟩ := h
  obtain ⟨v, xs, e, hv⟩ := slOf_open (T := loT) u47 c58 (by decide) (fun cs n x h => lot_open h) hf
  simp [Value.cells] at e
  subst e
  exact ⟨xs, hv⟩
end
end Go.Proofs.Ytjilbkioieicbaa


namespace Go.Proofs.Ytjilbkioieicbaa.rightsTells
open Go.ChangeShapes Go.WideShapes Go.ChangeAt Go.RowKit
set_option linter.unusedVariables false
theorem own : ownKnob Try.prog.godebug = none := by kernel_rfl
set_option maxRecDepth 100000 in
theorem lifted (os : Os) (started : os.Started) (H : Type) (enc : TypeId × Value → H) :
    ReturnsInHanded {} Try.checked os 8 .any (Rows.rightsTellsSpec.pre6 enc Try.prog Try.f8 Rows.rightsTellsRow.domain false) (Rows.rightsTellsSpec.post enc Try.prog Try.f8 false true false false) := by
  refine returnsInHanded_of_change (C := Try.checked) own started (by kernel_rfl) Try.func8
    (ChangeSpec.witness6 (enc := enc) (C := Try.checked) false ⟨#[], #[.slice none 0 0, .slice none 0 0, .int .i64 0], []⟩ 8 (by kernel_rfl) (by kernel_rfl) (by kernel_rfl) (by kernel_rfl)) ?_
  intro W base args ds gs before hval0 hW hcnd _
  have hval : ∀ (j : Nat) t v, Try.f8.params[j]? = some t → args[j]? = some v → Value.okWide Try.prog W .any base t v := hval0
  have hW' := hW
  obtain ⟨p, q, hA0, hV, rfl, hfz, hnd⟩ := hW
  have hA : DataW.TrodAll enc Try.prog W 0 (fun _ => true) true Try.f8.params.toList args.toList ds p := hA0
  rw [Try.params8] at hA hval
  obtain ⟨v0, vs0, d0, ds0, p0, q0, hargs, rfl, rfl, h0, r0⟩ := trodAll_cons hA
  obtain ⟨v1, vs1, d1, ds1, p1, q1, rfl, rfl, rfl, h1, r1⟩ := trodAll_cons r0
  obtain ⟨v2, vs2, d2, ds2, p2, q2, rfl, rfl, rfl, h2, r2⟩ := trodAll_cons r1
  obtain ⟨rfl, rfl, rfl⟩ := trodAll_nil r2
  obtain rfl : args = #[v0, v1, v2] := by cases args; simp_all
  obtain ⟨rfl, rfl⟩ := trodVars_none hV
  have k0 := h0
  have lt0 : ∀ x ∈ p0, x.block < W.heap.size := fun x hx => hW'.lt x (by simp [hx])
  obtain ⟨l0, s0⟩ := deeds_open (okWide_slice u45 (hval 0 45 v0 rfl rfl)) h0
  have k1 := h1
  have lt1 : ∀ x ∈ p1, x.block < W.heap.size := fun x hx => hW'.lt x (by simp [hx])
  obtain ⟨l1, s1⟩ := lots_open (okWide_slice u47 (hval 1 47 v1 rfl rfl)) h1
  obtain ⟨a2, rfl, rfl, rfl, w2⟩ := open_int u3 (hval 2 3 v2 rfl rfl) h2
  clear hA0 hval0
  simp only [List.append_nil] at hW'
  refine (tells_c l0 l1 a2 v0 v1 W s0 s1).mono fun e W' ⟨he, hx⟩ => ?_
  subst he
  exact ⟨_, rfl, _, _, _, [], _, [], hW', trodAll_cons_mk (shut_bool u4 _) trodAll_mk0, (trodAll_cons_mk (Below.trod laid (by kernel_rfl) (of_decide_eq_true (by kernel_rfl)) k0 hx.below lt0) (trodAll_cons_mk (Below.trod laid (by kernel_rfl) (of_decide_eq_true (by kernel_rfl)) k1 hx.below lt1) (trodAll_cons_mk (shut_int u3 w2) trodAll_mk0))), rfl, hx.below.frame _, fun h => by cases h⟩

theorem over : Rows.rightsTellsRow.holds Try.pinned (OpenSpec.ofChange Rows.rightsTellsSpec) :=
  OpenClaim.holds_of_wide 8 Try.f8 rfl rfl rfl rfl rfl rfl rfl ⟨rfl, rfl, rfl, rfl, rfl⟩ rfl rfl rfl rfl rfl (by kernel_rfl) Try.func8 (by kernel_rfl)
    (of_decide_eq_true (by kernel_rfl)) (by unfold Func.isWrapper; first | (rw [if_pos (by decide +kernel)]; kernel_rfl) | (rw [if_neg (by decide +kernel)]; exact ⟨rfl, rfl⟩))
    (fun os started H enc _ => lifted os started H enc)

/-- The statement. -/
theorem proved : Rows.RightsTellsSaid :=
  over
#print axioms proved
end Go.Proofs.Ytjilbkioieicbaa.rightsTells

