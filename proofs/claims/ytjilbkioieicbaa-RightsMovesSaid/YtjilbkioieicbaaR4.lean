/- Walks: the book. -/
import Derived.Test.YtjilbkioieicbaaR1
namespace Go.Proofs.Ytjilbkioieicbaa
open Go.Vc Rt
set_option linter.unusedVariables false
set_option linter.unusedSimpArgs false
/-- The book at a block, its slice, its lots. -/
structure Bk (w : World) (b : Nat) (v : Value) (L : List Lot) : Prop where
  box : (LO.box b 112 [.o 1 v]).holds w
  row : (LO.row v 58 7 (L.map encL)).holds w
  ne : b ∉ blkOf v
def BkHp (b : Nat) (v : Value) (L : List Lot) : List (Nat × LO) := [(0, .box b 112 [.o 1 v]), (1, .row v 58 7 (L.map encL))]
def bkPost (b : Nat) (v : Value) (L' : List Lot) (r : RV) (w : World) : Ending → World → Prop := fun e w' =>
  e = .returned r.den ∧ ∃ v', Bk w' b v' L' ∧ Fr (b :: blkOf v) w w' ∧ ∀ c ∈ blkOf v', c ∈ blkOf v ∨ w.heap.size ≤ c
def BkC (f : FuncId) (args : List Value) (b : Nat) (v : Value) (L' : List Lot) (r : RV) (w : World) : Prop := Calls Try.prog f args.toArray w (bkPost b v L' r w)
theorem enter_bk {N : Nat} {l : List RV} {b : Nat} {v : Value} {L : List Lot} {w : World} (h : Bk w b v L) : Holds (St.enter N l (BkHp b v L) (b :: blkOf v) w) w := by
  have := enter_objs (N := N) (l := l) (hp := BkHp b v L) (w := w) (fun o ho => by
    simp only [BkHp, List.mem_cons, List.not_mem_nil, or_false] at ho
    rcases ho with rfl | rfl
    · exact h.box
    · exact h.row) (by
    simp only [BkHp, List.flatMap_cons, List.flatMap_nil, LO.blks, List.append_nil, List.singleton_append, List.nodup_cons]
    exact ⟨h.ne, LO.nodup (o := .row v 58 7 [])⟩)
  simpa [BkHp, LO.blks] using this
theorem disj_of {hp : List (Nat × LO)} (hn : (hp.flatMap fun o => o.2.blks).Nodup) : ∀ {i j : Nat} {o o' : LO}, Vc.look hp i = some o → Vc.look hp j = some o' → i ≠ j → ∀ c ∈ o.blks, c ∉ o'.blks := by
  induction hp with
  | nil => intro i j o o' h; cases h
  | cons x r ih =>
    obtain ⟨t, u⟩ := x
    rw [List.flatMap_cons, List.nodup_append] at hn
    intro i j o o' h1 h2 hne c hc hc'
    simp only [Vc.look] at h1 h2
    split at h1
    · rename_i hb1
      cases h1
      split at h2
      · rename_i hb2
        exact hne ((Nat.eq_of_beq_eq_true hb1).symm.trans (Nat.eq_of_beq_eq_true hb2))
      · exact hn.2.2 c hc c (List.mem_flatMap.2 ⟨_, look_mem h2, hc'⟩) rfl
    · split at h2
      · cases h2
        exact hn.2.2 c hc' c (List.mem_flatMap.2 ⟨_, look_mem h1, hc⟩) rfl
      · exact ih hn.2.1 h1 h2 hne c hc hc'
theorem bk_of {st : St} {w : World} (hw : Holds st w) {i0 i1 b : Nat} {v : Value} {L : List Lot} (h0 : Vc.look st.hp i0 = some (.box b 112 [.o i1 v])) (h1 : Vc.look st.hp i1 = some (.row v 58 7 (L.map encL))) (hne : i0 ≠ i1) : Bk w b v L :=
  ⟨hw.objs _ (look_mem h0), hw.row h1, disj_of hw.nodup h0 h1 hne b (by simp [LO.blks])⟩
theorem bk_done {st : St} {w w' : World} (hw : Holds st w') {i0 i1 b : Nat} {v v' : Value} {L' : List Lot} {r : RV} (h0 : Vc.look st.hp i0 = some (.box b 112 [.o i1 v'])) (h1 : Vc.look st.hp i1 = some (.row v' 58 7 (L'.map encL))) (hne : i0 ≠ i1)
    (hS : st.S = b :: blkOf v) (hws : st.ws = w) : bkPost b v L' r w (.returned r.den) w' := by
  subst hws
  have hb := bk_of hw h0 h1 hne
  refine ⟨rfl, v', hb, by have := hw.fr; rw [hS] at this; exact this, fun c hc => ?_⟩
  rcases hw.fresh h1 c hc with h | h
  · rw [hS] at h
    rcases List.mem_cons.1 h with rfl | h
    · exact (hb.ne hc).elim
    · exact .inl h
  · exact .inr h
/-- A call with the book. -/
theorem bk_call {f : FuncId} {args : List Value} {st : St} {d : Option Nat} {K : St → Prop} {i0 i1 b : Nat} {v : Value} {L L' : List Lot} {r : RV} (hb : Body Try.prog f) (h0 : Vc.look st.hp i0 = some (.box b 112 [.o i1 v])) (h1 : Vc.look st.hp i1 = some (.row v 58 7 (L.map encL))) (hne : i0 ≠ i1)
    (hr : noPr r = true) (h : ∀ w, Holds st w → Bk w b v L → BkC f args b v L' r w)
    (hk : ∀ v' : Value, (∃ a n c, v' = .slice a n c) → hpSetK st.hp i1 (.row v' 58 7 (L'.map encL)) (fun hp => hpSetK hp i0 (.box b 112 [.o i1 v']) (fun hp' => st.withHp hp' (fun st' => goPut st' d r K)))) : UCall Try.prog st f args d K :=
  .inl ⟨hb, fun hwf w hw => (h w hw (bk_of hw h0 h1 hne)).mono fun e w' ⟨he, v', hbk, hf, hbl⟩ => by
    have hsl := ownsAt_slice hbk.row.1
    have hk' := hk v' hsl
    rw [hpSetK_eq, hpSetK_eq] at hk'
    have hl0' : Vc.look (hpSet st.hp i1 (.row v' 58 7 (L'.map encL))) i0 = some (.box b 112 [.o i1 v]) := by rw [look_hpSet_other hne]; exact h0
    have hwf1 := hwf.setO h1 (o' := .row v' 58 7 (L'.map encL)) (fun _ _ _ e => by cases e) ⟨rows_some hbk.row, (nopL L').ok⟩
    have hwf2 := hwf1.setO (id := i0) (o := .box b 112 [.o i1 v]) (o' := .box b 112 [.o i1 v']) hl0' (fun blk T cells e => by cases e; exact ⟨_, _, rfl⟩) (fun c hc => by simp at hc; subst hc; exact hsl)
    refine ⟨r, st.setHp (hpSet (hpSet st.hp i1 (.row v' 58 7 (L'.map encL))) i0 (.box b 112 [.o i1 v'])), he, ⟨rfl, rfl, rfl, rfl⟩, hwf2, noPr_ok hr, ?_, hk'⟩
    exact hw.set2 h1 h0 hne (hf.mono fun c hc => .inl (by simp only [LO.blks, List.mem_append, List.mem_singleton]; rcases List.mem_cons.1 hc with rfl | hc; exact .inr rfl; exact .inl hc)) hbk.row (show (LO.box b 112 [.o i1 v']).holds w' from hbk.box) hbl (fun c hc => hc)⟩
theorem joinL_snoc (out : List Lot) (r l : Lot) : joinL (out ++ [r]) l = if alike r l then out ++ [lotTo r l.s.t] else out ++ [r] ++ [l] := by
  unfold joinL
  simp [List.getLast?_append]
theorem joinL_set {out : List Lot} {r x : Lot} (h0 : 0 < out.length) (hr : out[out.length - 1]? = some r) (h1 : alike r x = true) : joinL out x = out.set (out.length - 1) (lotTo r x.s.t) := by
  rcases List.eq_nil_or_concat out with rfl | ⟨o, r', rfl⟩
  · simp at h0
  · simp only [List.concat_eq_append] at *
    simp at hr
    subst hr
    rw [joinL_snoc, if_pos h1]
    simp
theorem joinL_app {out : List Lot} {r x : Lot} (hr : 0 < out.length → out[out.length - 1]? = some r) (h : 0 < out.length → alike r x = false) : joinL out x = out ++ [x] := by
  rcases List.eq_nil_or_concat out with rfl | ⟨o, r', rfl⟩
  · rfl
  · simp only [List.concat_eq_append] at *
    have hr := hr (by simp)
    simp at hr
    subst hr
    rw [joinL_snoc, if_neg (by rw [h (by simp)]; simp)]
theorem joinL_len (out : List Lot) (x : Lot) : (joinL out x).length ≤ out.length + 1 := by
  rcases List.eq_nil_or_concat out with rfl | ⟨o, r', rfl⟩
  · simp [joinL]
  · simp only [List.concat_eq_append]
    rw [joinL_snoc]
    split <;> simp
theorem joinsL_len : ∀ (l out : List Lot), (l.foldl joinL out).length ≤ out.length + l.length
  | [], out => by simp
  | x :: l, out => by
    have := joinsL_len l (joinL out x)
    have := joinL_len out x
    simp only [List.foldl_cons, List.length_cons]; omega
theorem lastL (out : List Lot) : ∃ r, 0 < out.length → out[out.length - 1]? = some r := by
  rcases Nat.eq_zero_or_pos out.length with h | h
  · exact ⟨default, fun h' => by omega⟩
  · exact ⟨out[out.length - 1], fun _ => List.getElem?_eq_getElem (by omega)⟩
theorem merge_at (L : List Lot) (b : Nat) (v : Value) (w : World) (h : Bk w b v L) (hN : L.length ≤ 1000000) (B : Exit → Act → World → Prop) (hB : B = bodyPost Try.prog Try.f93 (bkPost b v (mergeL L) (.tup []) w)) :
    At (St.enter Try.f93.ntmps [.s (.c (.p 0 b 0))] (BkHp b v L) (b :: blkOf v) w) ((Try.f93.body.getD .skip).wp Try.prog B) := by
  show At _ (Code.wp Try.prog _ B)
  repeat refine At.seq ?_
  refine At.region tab_ok ?_
  conv => whnf
  repeat refine At.seq ?_
  refine At.region tab_ok ?_
  conv => whnf
  refine ⟨rfl, ?_⟩
  conv => whnf
  repeat refine At.seq ?_
  refine At.block ?_
  refine At.loopH (fun p : Nat × Value => { N := Try.f93.ntmps, sl := [(0, some (.s (.c (.p 0 b 0)))), (2, some (.s (.c (.o 2 p.2)))), (10, some (.s (.c (.o 1 v)))), (11, some (.i L.length)), (12, some (.i p.1))], gl := [], hp := (2, .row p.2 58 7 (((L.take p.1).foldl joinL []).map encL)) :: BkHp b v L, S := b :: blkOf v, ws := w }) (fun p => p.1 ≤ L.length) (fun p => L.length - p.1)
    (fun w' hw => ⟨(0, .slice none 0 0), Nat.zero_le _, Le.of rfl rfl ⟨rfl, rfl, rfl, congrArg (Value.int .i64) (by simp), rfl, trivial⟩, hw.nil rfl rfl rfl, ⟨⟨_, _, rfl⟩, ⟨_, _, _, rfl⟩, ⟨_, _, _, rfl⟩, trivial⟩, ⟨(nopL _).okH, fun c hc => by simp at hc; subst hc; exact ⟨_, _, _, rfl⟩, (nopL _).okH, trivial⟩⟩) ?_
  rintro ⟨k, vo⟩ hk
  simp only at hk ⊢
  repeat refine At.seq ?_
  refine At.region tab_ok ?_
  conv => whnf
  repeat refine At.seq ?_
  refine At.cond rfl (fun hc => At.skip ?_) (fun hc => At.exit ?_)
  · have hlt : k < L.length := by have := of_decide_eq_true hc; omega
    obtain ⟨x, hx⟩ : ∃ x, L[k]? = some x := ⟨_, List.getElem?_eq_getElem hlt⟩
    have hol := joinsL_len (L.take k) []
    have hnx : (L.take (k + 1)).foldl joinL [] = joinL ((L.take k).foldl joinL []) x := by rw [List.take_add_one, hx, List.foldl_append]; rfl
    generalize (L.take k).foldl joinL [] = out at hol hnx ⊢
    simp only [List.length_nil, List.length_take] at hol
    obtain ⟨r, hr⟩ := lastL out
    have hr' : ∀ {q : Int}, q = out.length - 1 → 0 ≤ q → (out.map encL)[q.toNat]? = some (encL r) := fun {q} e h0 => by
      rw [List.getElem?_map, show q.toNat = out.length - 1 by omega, hr (by omega)]; rfl
    have hml : (out.map encL).length = out.length := by simp
    repeat refine At.seq ?_
    refine At.block ?_
    repeat refine At.seq ?_
    refine At.region tab_ok ?_
    conv => whnf
    refine ⟨rfl, ?_⟩
    conv => whnf
    refine ⟨by omega, ?_⟩
    conv => whnf
    refine ⟨by simp; omega, ?_⟩
    conv => whnf
    refine ⟨encL x, ⟨rfl, rfl, by omega, by simp [hx]⟩, ?_⟩
    conv => whnf
    intro b3
    conv => whnf
    repeat refine At.seq ?_
    refine At.region tab_ok ?_
    conv => whnf
    refine ⟨rfl, ?_⟩
    conv => whnf
    refine ⟨by rw [hml]; exact ⟨by omega, by omega⟩, ?_⟩
    conv => whnf
    repeat refine At.seq ?_
    refine At.region tab_ok ?_
    conv => whnf
    repeat refine At.seq ?_
    refine At.cond rfl (fun hq => ?_) (fun hq => ?_)
    · have hq0 := of_decide_eq_true hq
      have h0 : 0 < out.length := by rw [hml] at hq0; omega
      repeat refine At.seq ?_
      refine At.region tab_ok ?_
      conv => whnf
      refine ⟨rfl, ?_⟩
      conv => whnf
      refine ⟨hq0, ?_⟩
      conv => whnf
      refine ⟨by omega, ?_⟩
      conv => whnf
      refine ⟨encL r, ⟨rfl, rfl, hq0, hr' (by rw [hml]) hq0⟩, ?_⟩
      conv => whnf
      intro b4
      conv => whnf
      repeat refine At.seq ?_
      refine At.region tab_ok ?_
      conv => whnf
      repeat refine At.seq ?_
      refine At.draw tab_ok mixed (by kernel_rfl) ?_
      conv => whnf
      refine ⟨by simp only [gimp]; intro _; trivial, ?_⟩
      conv => whnf
      refine ⟨by simp only [gimp]; intro _; exact hq0, ?_⟩
      conv => whnf
      refine ⟨by simp only [gimp]; intro _; omega, ?_⟩
      conv => whnf
      refine ⟨encL r, by simp only [gimp]; intro _; exact ⟨trivial, trivial, hq0, hr' (by rw [hml]) hq0⟩, ?_⟩
      conv => whnf
      refine ⟨by simp only [gimp]; intro _; trivial, ?_⟩
      conv => whnf
      refine ⟨by simp only [gimp]; intro _; exact hq0, ?_⟩
      conv => whnf
      refine ⟨by simp only [gimp]; intro _; omega, ?_⟩
      conv => whnf
      refine ⟨encL r, by simp only [gimp]; intro _; exact ⟨trivial, trivial, hq0, hr' (by rw [hml]) hq0⟩, ?_⟩
      conv => whnf
      have hal : ∀ t : Bool, (bif (bif decide (x.s.m = x.s.m) && (decide (x.s.f = x.s.f) && (decide (x.s.t = x.s.t) && (decide (r.o = x.o) && (decide (r.h = x.h) && (decide (r.u = x.u) && (decide (r.p = x.p) && true)))))) then decide (r.s.m = x.s.m) else false) then decide (r.s.t = x.s.f) else false) = t → alike r x = t := fun t ht => by
        rw [← ht]
        simp only [band, decide_true, Bool.true_and, Bool.and_true, alike, Bool.and_assoc]
      repeat refine At.seq ?_
      refine At.cond rfl (fun hq => ?_) (fun hq => ?_)
      · have hjs := joinL_set h0 (hr h0) (hal _ hq)
        have hidx : (((out.map encL).length : Int) - 1).toNat = out.length - 1 := by rw [hml]; omega
        repeat refine At.seq ?_
        refine At.region tab_ok ?_
        conv => whnf
        refine ⟨rfl, ?_⟩
        conv => whnf
        refine ⟨hq0, ?_⟩
        conv => whnf
        refine ⟨by omega, ?_⟩
        conv => whnf
        refine ⟨encL r, ⟨rfl, rfl, hq0, hr' (by rw [hml]) hq0⟩, ?_⟩
        conv => whnf
        refine At.exit ?_
        repeat refine At.seq ?_
        refine At.region tab_ok ?_
        conv => whnf
        refine ⟨⟨by omega, by omega⟩, ?_⟩
        conv => whnf
        refine At.nextH fun w' hw => ⟨(k + 1, vo), by simp only; omega, by simp only; omega, Le.of rfl rfl ⟨rfl, rfl, rfl, rfl, rfl, trivial⟩, hw.keep [2, 0, 1] ?_ rfl rfl, ⟨⟨_, _, rfl⟩, ⟨_, _, _, rfl⟩, ⟨_, _, _, rfl⟩, trivial⟩, ⟨(nopL _).okH, fun c hc => by simp at hc; subst hc; exact ⟨_, _, _, rfl⟩, (nopL _).okH, trivial⟩⟩
        show (2, LO.row vo 58 7 _) :: BkHp b v L = (2, LO.row vo 58 7 _) :: BkHp b v L
        rw [hnx, hjs, hidx, List.map_set]
        rfl
      · have hja : joinL out x = out ++ [x] := joinL_app hr fun _ => hal _ hq
        refine At.skip ?_
        repeat refine At.seq ?_
        refine At.region tab_ok ?_
        conv => whnf
        intro v4
        conv => whnf
        refine ⟨rfl, ?_⟩
        conv => whnf
        refine ⟨⟨rfl, by simp; omega⟩, ?_⟩
        conv => whnf
        intro v5
        conv => whnf
        repeat refine At.seq ?_
        refine At.region tab_ok ?_
        conv => whnf
        refine ⟨⟨by omega, by omega⟩, ?_⟩
        conv => whnf
        refine At.nextH fun w' hw => ⟨(k + 1, v5), by simp only; omega, by simp only; omega, Le.of rfl rfl ⟨rfl, rfl, rfl, rfl, rfl, trivial⟩, hw.keep [2, 0, 1] ?_ rfl rfl, ⟨⟨_, _, rfl⟩, ⟨_, _, _, rfl⟩, ⟨_, _, _, rfl⟩, trivial⟩, ⟨(nopL _).okH, fun c hc => by simp at hc; subst hc; exact ⟨_, _, _, rfl⟩, (nopL _).okH, trivial⟩⟩
        show (2, LO.row v5 58 7 _) :: BkHp b v L = (2, LO.row v5 58 7 _) :: BkHp b v L
        rw [hnx, hja, List.map_append]
        rfl
    · have hja : joinL out x = out ++ [x] := joinL_app hr fun h0 => by have := of_decide_eq_false hq; rw [hml] at this; omega
      refine At.skip ?_
      repeat refine At.seq ?_
      refine At.region tab_ok ?_
      conv => whnf
      intro v4
      conv => whnf
      refine ⟨rfl, ?_⟩
      conv => whnf
      refine ⟨⟨rfl, by simp; omega⟩, ?_⟩
      conv => whnf
      intro v5
      conv => whnf
      repeat refine At.seq ?_
      refine At.region tab_ok ?_
      conv => whnf
      refine ⟨⟨by omega, by omega⟩, ?_⟩
      conv => whnf
      refine At.nextH fun w' hw => ⟨(k + 1, v5), by simp only; omega, by simp only; omega, Le.of rfl rfl ⟨rfl, rfl, rfl, rfl, rfl, trivial⟩, hw.keep [2, 0, 1] ?_ rfl rfl, ⟨⟨_, _, rfl⟩, ⟨_, _, _, rfl⟩, ⟨_, _, _, rfl⟩, trivial⟩, ⟨(nopL _).okH, fun c hc => by simp at hc; subst hc; exact ⟨_, _, _, rfl⟩, (nopL _).okH, trivial⟩⟩
      show (2, LO.row v5 58 7 _) :: BkHp b v L = (2, LO.row v5 58 7 _) :: BkHp b v L
      rw [hnx, hja, List.map_append]
      rfl
  · have hge : k = L.length := by have := of_decide_eq_false hc; omega
    subst hge
    rw [List.take_length]
    repeat refine At.seq ?_
    refine At.region tab_ok ?_
    conv => whnf
    refine At.doneN tab_ok hB _ rfl fun w' hw => ?_
    exact bk_done (i0 := 0) (i1 := 2) hw rfl rfl (by decide) rfl rfl
end Go.Proofs.Ytjilbkioieicbaa
