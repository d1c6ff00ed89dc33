/- Walks: a deed is carried out; all deeds. -/
import Derived.Test.YtjilbkioieicbaaR9
import Derived.Defers
namespace Go.Proofs.Ytjilbkioieicbaa
open Go.Vc Rt
set_option linter.unusedVariables false
set_option linter.unusedSimpArgs false
theorem wp_of_at {P : Program} {fn : Func} {c : Code} {w : World} {Q : Exit → Act → World → Prop} (l : List RV) (hp : List (Nat × LO)) (S : List Nat) (hn : l.length ≤ fn.ntmps) (hwf : WF (St.enter fn.ntmps l hp S w)) (hw : Holds (St.enter fn.ntmps l hp S w) w)
    (h : At (St.enter fn.ntmps l hp S w) (c.wp P Q)) : c.wp P Q { tmps := (l.map RV.den).toArray ++ Array.replicate (fn.ntmps - (l.map RV.den).toArray.size) undef, defers := [] } w := by
  refine h.out hwf _ w ⟨?_, rfl, fun s v hl => ?_, fun s ks v hl => by cases hl⟩ hw
  · simp [St.enter]; omega
  · obtain ⟨_, h2⟩ := slots_spec hl
    rw [Nat.sub_zero] at h2
    have hlt : s < l.length := by
      rcases Nat.lt_or_ge s l.length with h' | h'
      · exact h'
      · rw [List.getElem?_eq_none h'] at h2; cases h2
    rw [Array.getElem?_append_left (by simpa using hlt)]
    simp [h2]
/-- The end of 'do': the book is merged. -/
theorem do_leaves {st : St} {b : Nat} {v v1 : Value} {L1 : List Lot} {e : Int} {w : World} (hdf : st.df = [{ target := .fn (.func 93) #[], args := #[ptr b] }]) (h0 : Vc.look st.hp 0 = some (.box b 112 [.o 1 v1])) (h1 : Vc.look st.hp 1 = some (.row v1 58 7 (L1.map encL)))
    (hS : st.S = b :: blkOf v) (hws : st.ws = w) (hr : Vc.look st.sl 4 = some (some (.i e))) (hN : L1.length ≤ 1000000) (hgl : st.gl = []) : At st (bodyPostD Try.prog Try.f66 (bkPost b v (mergeL L1) (.i e) w) .ret) :=
  ⟨fun hwf a w1 hrel hw => by
    show Leaves Try.prog Try.f66 a.tmps _ a.defers .returning w1
    rw [hrel.defers, hdf]
    have hbk := bk_of hw h0 h1 (by decide)
    have hmw := wp_of_at (fn := Try.f93) [.s (.c (.p 0 b 0))] (BkHp b v1 L1) (b :: blkOf v1) (Nat.le_of_ble_eq_true rfl) (WF.objs (enter_bk hbk) ⟨⟨_, _, rfl⟩, trivial⟩ ⟨fun c hc => by simp at hc; subst hc; exact ⟨_, _, _, rfl⟩, (nopL _).okH, trivial⟩) (enter_bk hbk) (merge_at L1 b v1 w1 hbk hN _ rfl)
    have hcd := callsD_of_wp (u := .returning) Try.func93 rfl hmw
    have hinv : (invoke (.fn (.func 93) #[]) #[ptr b]).run Try.prog w1 = .ok (.enter 93 #[ptr b]) w1 := by
      obtain ⟨fn, hfn, hname, hbody⟩ := b93
      simp only [invoke, callFunc, Sem.run_bind, run_program, Result.andThen_ok]
      simp only [hfn, hname, hbody, Bool.false_eq_true, if_false, Sem.run_pure]
      rfl
    refine leaves_cons (by simp) hinv (hcd.mono ?_)
    rintro e' u' w2 ⟨rfl, he, v2, hb2, hf2, hbl2⟩
    rw [he]
    have hfr := hw.fr
    rw [hS, hws] at hfr
    show ∃ x, (results Try.f66 a.tmps).run Try.prog w2 = .ok x w2 ∧ _
    refine ⟨.int .i64 e, ?_, rfl, v2, hb2, hfr.trans' hf2 fun c hc => ?_, fun c hc => ?_⟩
    · let st0 : St := { N := st.N, sl := [(4, some (.i e))], gl := [], hp := [], S := [], ws := w2, df := st.df }
      have hle : Le st st0 := ⟨⟨rfl, rfl⟩, rfl, fun s x hl => by
        replace hl : Vc.look [(4, some (RV.i e))] s = some (some x) := hl
        simp only [Vc.look] at hl
        split at hl
        · rename_i hb
          have := Nat.eq_of_beq_eq_true hb
          subst this
          cases hl; exact ⟨_, hr, rfl⟩
        · cases hl⟩
      have hw0 : Holds st0 w2 := ⟨fun o ho => (by cases ho), List.nodup_nil, Fr.refl _ _, fun b hb => (by cases hb)⟩
      exact resOf_spec (P := Try.prog) (tab := tab) (fn := Try.f66) (st := st0) tab_ok (WF.plain rfl) (hle.rel hrel) hw0 (r := .i e) rfl
    · rcases List.mem_cons.1 hc with rfl | hc
      · exact .inl (List.mem_cons_self ..)
      · have := hw.fresh h1 c hc
        rw [hS, hws] at this
        exact this
    · rcases hbl2 c hc with hc' | hc'
      · have := hw.fresh h1 c hc'
        rw [hS, hws] at this
        rcases this with h | h
        · rcases List.mem_cons.1 h with rfl | h
          · exact (hb2.ne hc).elim
          · exact .inl h
        · exact .inr h
      · exact .inr (Nat.le_trans hfr.size hc')⟩
def doB (L : List Lot) (d : Deed) : List Lot × Int :=
  if right d then (if d.kind = 0 then (mergeL (takeB L d).1, (takeB L d).2) else (mergeL (moveB L d).1, (moveB L d).2)) else (L, 1)
/-- What the walk asks of lots and a deed. -/
structure DoOk (L : List Lot) (d : Deed) : Prop where
  len : L.length ≤ 700000
  spans : d.spans.length ≤ 1000
  sorted : right d = true → L.Pairwise (fun a b => a.s.m ≤ b.s.m)
  range : right d = true → ∀ l ∈ L, inR (l.s.m - d.mark)
  valid : right d = true → ∀ s ∈ d.spans, 0 ≤ s.f ∧ s.f < s.t ∧ s.t ≤ 1048576
  again : right d = true → d.kind ≠ 0 → (mvRun d d.spans L 0).2.2 = true → (mvRun d d.spans L 0).2.1 = 0 → ∀ k s, d.spans[k]? = some s → cutB s (mv2 d (d.spans.take k) (mvRun d d.spans L 0).1) = true
  out : right d = true → d.kind ≠ 0 → (moveB L d).1.length ≤ 1000000
theorem right_ne {d : Deed} (h : right d = true) : 0 < d.spans.length := by
  rcases Nat.eq_zero_or_pos d.spans.length with h0 | h0
  · unfold right at h; rw [if_pos (.inr (.inr (.inr (.inl h0))))] at h; cases h
  · exact h0
theorem insL_len (L : List Lot) (i : Nat) (x : Lot) : (insL L i x).length = L.length + 1 := by simp [insL]; omega
theorem takeB_len (L : List Lot) (d : Deed) : (takeB L d).1.length ≤ L.length + 1 := by
  unfold takeB; split
  · simp
  · simp only [insL_len]; omega
theorem do_c (L : List Lot) (d : Deed) (b : Nat) (v u : Value) (w : World) (h : Bk w b v L) (hu : SlOf spT (b :: blkOf v) w u d.spans) (ho : DoOk L d) : BkC 66 [ptr b, vD d u] b v (doB L d).1 (.i (doB L d).2) w := by
  have hh := enter_bk (N := Try.f66.ntmps) (l := [.s (.c (.p 0 b 0)), .s (.agg (encD d u))]) h
  have hul := hu.len
  have hlen := ho.len
  refine calls_of_wp_defers Try.func66 rfl (wp_of_at (fn := Try.f66) [.s (.c (.p 0 b 0)), .s (.agg (encD d u))] (BkHp b v L) (b :: blkOf v) (Nat.le_of_ble_eq_true rfl) (WF.objs hh ⟨⟨_, _, rfl⟩, trivial⟩ ⟨fun c hc => by simp at hc; subst hc; exact ⟨_, _, _, rfl⟩, (nopL _).okH, trivial⟩) hh ?_)
  generalize hB : bodyPostD Try.prog Try.f66 _ = B
  repeat refine At.seq ?_
  refine At.region tab_ok ?_
  conv => whnf
  refine ⟨hu.sl.one, ?_⟩
  conv => whnf
  intro b2
  conv => whnf
  repeat refine At.seq ?_
  refine At.region tab_ok ?_
  conv => whnf
  refine ans_call b92 rfl (fun w' hw => right_c d (b :: blkOf v) u w' (hu.fr hw.fr)) ?_
  conv => whnf
  repeat refine At.seq ?_
  refine At.cond rfl (fun hq => ?_) (fun hq => ?_)
  · have hr : right d = false := by simpa using hq
    repeat refine At.seq ?_
    refine At.region tab_ok ?_
    conv => whnf
    refine At.ret ?_
    have hd : doB L d = (L, 1) := by unfold doB; rw [if_neg (by rw [hr]; simp)]
    rw [hd] at hB
    subst hB
    refine ⟨fun hwf a w1 hrel hw => ?_⟩
    show Leaves Try.prog Try.f66 a.tmps _ a.defers .returning w1
    rw [hrel.defers]
    exact ⟨_, resOf_spec (fn := Try.f66) tab_ok hwf hrel hw rfl, bk_done (i0 := 0) (i1 := 1) (r := .i 1) hw rfl rfl (by decide) rfl rfl⟩
  · have hr : right d = true := by simpa using hq
    obtain ⟨s0, hs0⟩ : ∃ s, d.spans[0]? = some s := ⟨_, List.getElem?_eq_getElem (right_ne hr)⟩
    refine At.skip ?_
    repeat refine At.seq ?_
    refine At.region tab_ok ?_
    conv => whnf
    repeat refine At.seq ?_
    refine At.region tab_ok ?_
    conv => whnf
    repeat refine At.seq ?_
    refine At.cond rfl (fun hq => ?_) (fun hq => ?_)
    · have hk : d.kind = 0 := of_decide_eq_true hq
      have hd : doB L d = (mergeL (takeB L d).1, (takeB L d).2) := by unfold doB; rw [if_pos hr, if_pos hk]
      rw [hd] at hB
      subst hB
      have htl := takeB_len L d
      repeat refine At.seq ?_
      refine At.region tab_ok ?_
      conv => whnf
      refine bk_call (i0 := 0) (i1 := 1) (L := L) (L' := (takeB L d).1) (r := .i (takeB L d).2) b94 rfl rfl (by decide) rfl (fun w' hw hb => take_c L d s0 hs0 b v u w' hb (hu.fr hw.fr) (by omega) (ho.sorted hr) (ho.range hr)) ?_
      rintro v1 hsl1
      conv => whnf
      refine At.ret ?_
      exact do_leaves (v1 := v1) rfl rfl rfl rfl rfl rfl (by omega) rfl
    · have hk : ¬ d.kind = 0 := of_decide_eq_false hq
      have hd : doB L d = (mergeL (moveB L d).1, (moveB L d).2) := by unfold doB; rw [if_pos hr, if_neg hk]
      rw [hd] at hB
      subst hB
      refine At.skip ?_
      repeat refine At.seq ?_
      refine At.region tab_ok ?_
      conv => whnf
      refine bk_call (i0 := 0) (i1 := 1) (L := L) (L' := (moveB L d).1) (r := .i (moveB L d).2) b95 rfl rfl (by decide) rfl (fun w' hw hb => move_c L d b v u w' hb (hu.fr hw.fr) (by omega) ho.spans (ho.valid hr) (ho.again hr hk)) ?_
      rintro v1 hsl1
      conv => whnf
      refine At.ret ?_
      exact do_leaves (v1 := v1) rfl rfl rfl rfl rfl rfl (ho.out hr hk) rfl
end Go.Proofs.Ytjilbkioieicbaa
