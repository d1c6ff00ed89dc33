/- Walks: coins are passed, lent or spent. -/
import Derived.Test.YtjilbkioieicbaaR8
import Derived.Test.YtjilbkioieicbaaR2
namespace Go.Proofs.Ytjilbkioieicbaa
open Go.Vc Rt
set_option linter.unusedVariables false
set_option linter.unusedSimpArgs false
def errsK (L : List Lot) (d : Deed) (i k : Nat) (e : Int) : Int := ((L.take k).drop i).foldl (fun e l => worse e (may l d)) e
/-- The first round: lots, the error so far, whether all coins are there. -/
def mvRun (d : Deed) : List Span → List Lot → Int → List Lot × Int × Bool
  | [], L, e => (L, e, true)
  | s :: r, L, e => if cutB s L then mvRun d r (cutAt s L) (errsK (cutAt s L) d (cutI s L).toNat (cutK s L + 1).toNat e) else (cutAt s L, e, false)
def movedL (d : Deed) (l : Lot) : Lot :=
  if d.kind = 1 then { l with o := d.who, h := d.who, u := 0 } else if d.kind = 2 then { l with h := d.who, u := d.til } else if d.kind = 3 then { l with p := d.mark } else l
def updR (L : List Lot) (i k : Nat) (f : Lot → Lot) : List Lot := L.take i ++ ((L.take k).drop i).map f ++ L.drop k
def mv2 (d : Deed) : List Span → List Lot → List Lot
  | [], L => L
  | s :: r, L => mv2 d r (updR (cutAt s L) (cutI s L).toNat (cutK s L + 1).toNat (movedL d))
def moveB (L : List Lot) (d : Deed) : List Lot × Int :=
  let q := mvRun d d.spans L 0
  if q.2.2 = false then (q.1, 4) else if q.2.1 ≠ 0 then (q.1, q.2.1) else (mv2 d d.spans q.1, 0)
theorem drop_cons {α : Type} {xs : List α} {k : Nat} {x : α} (h : xs[k]? = some x) : xs.drop k = x :: xs.drop (k + 1) := by
  obtain ⟨h1, h2⟩ := List.getElem?_eq_some_iff.1 h
  rw [List.drop_eq_getElem_cons h1, h2]
theorem errsK_step {L : List Lot} {d : Deed} {i k : Nat} {e : Int} {x : Lot} (hx : L[i]? = some x) (hk : i < k) : errsK L d i k e = errsK L d (i + 1) k (worse e (may x d)) := by
  unfold errsK
  have : (L.take k)[i]? = some x := by rw [List.getElem?_take_of_lt hk]; exact hx
  rw [drop_cons this]; rfl
theorem errsK_done {L : List Lot} {d : Deed} {i k : Nat} {e : Int} (hk : k ≤ i) : errsK L d i k e = e := by
  unfold errsK
  rw [List.drop_eq_nil_of_le (by simp; omega)]; rfl
theorem updR_len {L : List Lot} {i k : Nat} {f : Lot → Lot} (h1 : i ≤ k) (h2 : k ≤ L.length) : (updR L i k f).length = L.length := by
  unfold updR; simp; omega
theorem updR_step {L : List Lot} {i j : Nat} {f : Lot → Lot} {x : Lot} (hi : i ≤ j) (hx : L[j]? = some x) : (updR L i j f).set j (f x) = updR L i (j + 1) f := by
  obtain ⟨hj, hxe⟩ := List.getElem?_eq_some_iff.1 hx
  unfold updR
  have e1 : (L.take i ++ ((L.take j).drop i).map f).length = j := by simp; omega
  rw [List.set_append_right _ _ (by omega), e1, Nat.sub_self, drop_cons hx, List.set_cons_zero, List.take_add_one, hx]
  rw [List.drop_append_of_le_length (by simp; omega)]
  simp
theorem updR_get {L : List Lot} {i j : Nat} {f : Lot → Lot} {x : Lot} (hi : i ≤ j) (hx : L[j]? = some x) : (updR L i j f)[j]? = some x := by
  obtain ⟨hj, hxe⟩ := List.getElem?_eq_some_iff.1 hx
  unfold updR
  rw [List.getElem?_append_right (by simp; omega), List.getElem?_drop]
  rw [show j + (j - (L.take i ++ ((L.take j).drop i).map f).length) = j by simp; omega]
  exact hx
theorem updR_zero {L : List Lot} {i : Nat} {f : Lot → Lot} : updR L i i f = L := by
  unfold updR
  rw [List.drop_eq_nil_of_le (by simp; omega)]
  simp
theorem updR_ge {L : List Lot} {i k : Nat} {f : Lot → Lot} (h : k ≤ i) (hi : i ≤ L.length) : updR L i k f = L.take i ++ L.drop k := by
  unfold updR
  rw [List.drop_eq_nil_of_le (by simp; omega)]
  simp
theorem mv2_snoc {d : Deed} : ∀ {l : List Span} {s : Span} {L : List Lot}, mv2 d (l ++ [s]) L = updR (cutAt s (mv2 d l L)) (cutI s (mv2 d l L)).toNat (cutK s (mv2 d l L) + 1).toNat (movedL d)
  | [], s, L => rfl
  | x :: l, s, L => by simp only [List.cons_append, mv2]; exact mv2_snoc
theorem set_self {α : Type} : ∀ {xs : List α} {j : Nat} {x : α}, xs[j]? = some x → xs.set j x = xs
  | [], j, x, h => by simp at h
  | y :: xs, 0, x, h => by simp at h; subst h; rfl
  | y :: xs, j + 1, x, h => by simp only [List.set_cons_succ]; rw [set_self (by simpa using h)]
theorem set_get {rows : List (List CV)} {j : Nat} {r : List CV} (h : j < rows.length) : (rows.set j r)[j]? = some r := by simp [h]
theorem move_c (L : List Lot) (d : Deed) (b : Nat) (v u : Value) (w : World) (h : Bk w b v L) (hu : SlOf spT (b :: blkOf v) w u d.spans) (hN : L.length ≤ 800000) (hn : d.spans.length ≤ 1000) (hv : ∀ s ∈ d.spans, 0 ≤ s.f ∧ s.f < s.t ∧ s.t ≤ 1048576)
    (hB2 : (mvRun d d.spans L 0).2.2 = true → (mvRun d d.spans L 0).2.1 = 0 → ∀ k s, d.spans[k]? = some s → cutB s (mv2 d (d.spans.take k) (mvRun d d.spans L 0).1) = true) :
    BkC 95 [ptr b, vD d u] b v (moveB L d).1 (.i (moveB L d).2) w := by
  have hh := enter_bk (N := Try.f95.ntmps) (l := [.s (.c (.p 0 b 0)), .s (.agg (encD d u))]) h
  have hul := hu.len
  refine calls_atB _ _ _ Try.func95 rfl rfl (Nat.le_of_ble_eq_true rfl) (WF.objs hh ⟨⟨_, _, rfl⟩, trivial⟩ ⟨fun c hc => by simp at hc; subst hc; exact ⟨_, _, _, rfl⟩, (nopL _).okH, trivial⟩) hh fun B hB => ?_
  repeat refine At.seq ?_
  refine At.region tab_ok ?_
  conv => whnf
  refine ⟨hu.sl.one, ?_⟩
  conv => whnf
  intro b2
  conv => whnf
  repeat refine At.seq ?_
  refine At.region tab_ok ?_
  conv => whnf
  repeat refine At.seq ?_
  refine At.region tab_ok ?_
  conv => whnf
  refine ⟨hu.sl, ?_⟩
  conv => whnf
  repeat refine At.seq ?_
  refine At.block ?_
  refine At.loopH (fun p : Nat × Value × List Lot × Int => { N := Try.f95.ntmps, sl := [(0, some (.s (.c (.p 0 b 0)))), (3, some (.s (.c (.p 2 b2 0)))), (5, some (.i p.2.2.2)), (18, some (.x u)), (19, some (.i d.spans.length)), (20, some (.i p.1))], gl := [], hp := (2, .box b2 54 (encD d u)) :: BkHp b p.2.1 p.2.2.1, S := b :: blkOf v, ws := w })
    (fun p => p.1 ≤ d.spans.length ∧ mvRun d d.spans L 0 = mvRun d (d.spans.drop p.1) p.2.2.1 p.2.2.2 ∧ p.2.2.1.length ≤ L.length + 2 * p.1) (fun p => d.spans.length - p.1)
    (fun w' hw => ⟨(0, v, L, 0), ⟨Nat.zero_le _, rfl, by simp⟩, Le.of rfl rfl ⟨rfl, rfl, rfl, rfl, congrArg (Value.int .i64) hul, rfl, trivial⟩, hw.same rfl rfl rfl, ⟨⟨_, _, rfl⟩, ⟨_, _, rfl⟩, trivial⟩, ⟨fun c hc => by simp at hc; subst hc; exact ⟨_, _, _, rfl⟩, (nopL _).okH, trivial⟩⟩) ?_
  rintro ⟨k, v1, L1, e1⟩ ⟨hk, hrun, hlen⟩
  simp only at hk hrun hlen ⊢
  repeat refine At.seq ?_
  refine At.region tab_ok ?_
  conv => whnf
  repeat refine At.seq ?_
  refine At.cond rfl (fun hc => At.skip ?_) (fun hc => At.exit ?_)
  · have hlt : k < d.spans.length := by have := of_decide_eq_true hc; omega
    obtain ⟨s, hs⟩ : ∃ s, d.spans[k]? = some s := ⟨_, List.getElem?_eq_getElem hlt⟩
    have hvs := hv s (List.mem_of_getElem? hs)
    have hcl := cut_len s L1
    have hbI := idx_bound (inLot s.m s.f) (cutAt s L1)
    have hbK := idx_bound (inLot s.m (s.t - 1)) (cutAt s L1)
    change -1 ≤ cutI s L1 ∧ cutI s L1 < _ at hbI
    change -1 ≤ cutK s L1 ∧ cutK s L1 < _ at hbK
    rw [drop_cons hs] at hrun
    simp only [mvRun] at hrun
    repeat refine At.seq ?_
    refine At.block ?_
    repeat refine At.seq ?_
    refine At.region tab_ok ?_
    conv => whnf
    refine ⟨by omega, ?_⟩
    conv => whnf
    refine ⟨by omega, ?_⟩
    conv => whnf
    refine ⟨encS s, fun w' hw => hu.load (n := 3) hw.fr hs rfl, ?_⟩
    conv => whnf
    intro b3
    conv => whnf
    repeat refine At.seq ?_
    refine At.region tab_ok ?_
    conv => whnf
    refine bk_call (i0 := 0) (i1 := 1) (L := L1) (L' := cutAt s L1) (r := .tup [.c (.i (cutI s L1)), .c (.i (cutK s L1 + 1)), .c (.b (cutB s L1))]) b125 rfl rfl (by decide) rfl (fun w' hw hb => cut_c L1 s b v1 w' hb (by omega) ⟨by omega, by omega⟩) ?_
    rintro v2 hsl2
    conv => whnf
    repeat refine At.seq ?_
    refine At.region tab_ok ?_
    conv => whnf
    repeat refine At.seq ?_
    refine At.cond rfl (fun hq => ?_) (fun hq => ?_)
    · have hcb : cutB s L1 = false := by simpa using hq
      rw [if_neg (by rw [hcb]; simp)] at hrun
      repeat refine At.seq ?_
      refine At.region tab_ok ?_
      conv => whnf
      repeat refine At.seq ?_
      refine At.ret (At.doneB tab_ok hB _ rfl fun w' hw => by have : moveB L d = (cutAt s L1, 4) := by { unfold moveB; rw [hrun]; rfl }; rw [this]; exact bk_done (i0 := 0) (i1 := 1) (r := .i 4) hw rfl rfl (by decide) rfl rfl)
    · have hcb : cutB s L1 = true := by simpa using hq
      rw [if_pos hcb] at hrun
      have hI0 : 0 ≤ cutI s L1 := by unfold cutB at hcb; simp at hcb; exact hcb.1
      obtain ⟨i0, hi0⟩ : ∃ i : Nat, cutI s L1 = i := ⟨(cutI s L1).toNat, by omega⟩
      obtain ⟨k0, hk0⟩ : ∃ i : Nat, cutK s L1 + 1 = i := ⟨(cutK s L1 + 1).toNat, by omega⟩
      have hk0l : k0 ≤ (cutAt s L1).length := by omega
      rw [hi0, hk0, Int.toNat_natCast, Int.toNat_natCast] at hrun
      refine At.skip ?_
      generalize hL2 : cutAt s L1 = L2 at *
      repeat refine At.seq ?_
      refine At.block ?_
      refine At.loopH (fun p : Nat × Int => { N := Try.f95.ntmps, sl := [(0, some (.s (.c (.p 0 b 0)))), (3, some (.s (.c (.p 2 b2 0)))), (5, some (.i p.2)), (18, some (.x u)), (19, some (.i d.spans.length)), (20, some (.i k)), (8, some (.i p.1)), (9, some (.i k0))], gl := [], hp := (2, .box b2 54 (encD d u)) :: BkHp b v2 L2, S := b :: blkOf v, ws := w })
        (fun p => errsK L2 d i0 k0 e1 = errsK L2 d p.1 k0 p.2 ∧ p.1 ≤ L2.length) (fun p => L2.length - p.1)
        (fun w' hw => ⟨(i0, e1), ⟨rfl, by omega⟩, Le.of rfl rfl ⟨rfl, rfl, rfl, rfl, rfl, rfl, congrArg (Value.int .i64) hi0, congrArg (Value.int .i64) hk0, trivial⟩, hw.keep [2, 0, 1] rfl rfl rfl, ⟨⟨_, _, rfl⟩, ⟨_, _, rfl⟩, trivial⟩, ⟨fun c hc => by simp at hc; subst hc; exact ⟨_, _, _, rfl⟩, (nopL _).okH, trivial⟩⟩) ?_
      rintro ⟨i, e⟩ ⟨herr, hiL⟩
      simp only at herr hiL ⊢
      repeat refine At.seq ?_
      refine At.region tab_ok ?_
      conv => whnf
      repeat refine At.seq ?_
      refine At.cond rfl (fun hc => At.skip ?_) (fun hc => At.exit ?_)
      · have hik : i < k0 := by have := of_decide_eq_true hc; omega
        obtain ⟨x, hx⟩ : ∃ x, L2[i]? = some x := ⟨_, List.getElem?_eq_getElem (by omega)⟩
        repeat refine At.seq ?_
        refine At.block ?_
        repeat refine At.seq ?_
        refine At.draw tab_ok mixed (by kernel_rfl) ?_
        conv => whnf
        refine ⟨rfl, ?_⟩
        conv => whnf
        refine ⟨by omega, ?_⟩
        conv => whnf
        refine ⟨by simp; omega, ?_⟩
        conv => whnf
        refine ⟨encL x, ⟨rfl, rfl, by omega, by simp [hx]⟩, ?_⟩
        conv => whnf
        refine ⟨.i (may x d), ans_quiet b127 (fun w' hw => may_c x d u w' hu.sl), ?_⟩
        conv => whnf
        refine ⟨.i (worse e (may x d)), ans_quiet b126 (fun w' hw => worse_c e (may x d) w'), ?_⟩
        conv => whnf
        repeat refine At.seq ?_
        refine At.region tab_ok ?_
        conv => whnf
        refine ⟨⟨by omega, by omega⟩, ?_⟩
        conv => whnf
        exact At.nextH fun w' hw => ⟨(i + 1, worse e (may x d)), ⟨by rw [herr]; exact errsK_step hx hik, by simp only; omega⟩, by simp only; omega, Le.of rfl rfl ⟨rfl, rfl, rfl, rfl, rfl, rfl, rfl, rfl, trivial⟩, hw.keep [2, 0, 1] rfl rfl rfl, ⟨⟨_, _, rfl⟩, ⟨_, _, rfl⟩, trivial⟩, ⟨fun c hc => by simp at hc; subst hc; exact ⟨_, _, _, rfl⟩, (nopL _).okH, trivial⟩⟩
      · have hik : k0 ≤ i := by have := of_decide_eq_false hc; omega
        rw [errsK_done hik] at herr
        rw [herr] at hrun
        repeat refine At.seq ?_
        refine At.region tab_ok ?_
        conv => whnf
        refine ⟨⟨by omega, by omega⟩, ?_⟩
        conv => whnf
        exact At.nextH fun w' hw => ⟨(k + 1, v2, L2, e), ⟨by simp only; omega, hrun, by simp only; omega⟩, by simp only; omega, Le.of rfl rfl ⟨rfl, rfl, rfl, rfl, rfl, rfl, trivial⟩, hw.keep [2, 0, 1] rfl rfl rfl, ⟨⟨_, _, rfl⟩, ⟨_, _, rfl⟩, trivial⟩, ⟨fun c hc => by simp at hc; subst hc; exact ⟨_, _, _, rfl⟩, (nopL _).okH, trivial⟩⟩
  · have hge : k = d.spans.length := by have := of_decide_eq_false hc; omega
    subst hge
    rw [List.drop_length] at hrun
    simp only [mvRun] at hrun
    repeat refine At.seq ?_
    refine At.region tab_ok ?_
    conv => whnf
    repeat refine At.seq ?_
    refine At.cond rfl (fun hq => ?_) (fun hq => ?_)
    · have he : e1 ≠ 0 := by simpa using hq
      repeat refine At.seq ?_
      refine At.region tab_ok ?_
      conv => whnf
      repeat refine At.seq ?_
      refine At.ret (At.doneB tab_ok hB _ rfl fun w' hw => by have : moveB L d = (L1, e1) := by { unfold moveB; rw [hrun]; simp [he] }; rw [this]; exact bk_done (i0 := 0) (i1 := 1) (r := .i e1) hw rfl rfl (by decide) rfl rfl)
    · have he : e1 = 0 := by simpa using hq
      subst he
      have hB2 := hB2 (by rw [hrun]) (by rw [hrun])
      rw [hrun] at hB2
      have hmb : moveB L d = (mv2 d d.spans L1, 0) := by unfold moveB; rw [hrun]; simp
      rw [hmb] at hB
      refine At.skip ?_
      repeat refine At.seq ?_
      refine At.region tab_ok ?_
      conv => whnf
      refine ⟨hu.sl, ?_⟩
      conv => whnf
      repeat refine At.seq ?_
      refine At.block ?_
      refine At.loopH (fun p : Nat × Value => { N := Try.f95.ntmps, sl := [(0, some (.s (.c (.p 0 b 0)))), (3, some (.s (.c (.p 2 b2 0)))), (54, some (.x u)), (55, some (.i d.spans.length)), (56, some (.i p.1))], gl := [], hp := (2, .box b2 54 (encD d u)) :: BkHp b p.2 (mv2 d (d.spans.take p.1) L1), S := b :: blkOf v, ws := w })
        (fun p => p.1 ≤ d.spans.length ∧ (mv2 d (d.spans.take p.1) L1).length ≤ L1.length + 2 * p.1) (fun p => d.spans.length - p.1)
        (fun w' hw => ⟨(0, v1), ⟨Nat.zero_le _, by simp [mv2]⟩, Le.of rfl rfl ⟨rfl, rfl, rfl, congrArg (Value.int .i64) hul, rfl, trivial⟩, hw.same rfl rfl rfl, ⟨⟨_, _, rfl⟩, ⟨_, _, rfl⟩, trivial⟩, ⟨fun c hc => by simp at hc; subst hc; exact ⟨_, _, _, rfl⟩, (nopL _).okH, trivial⟩⟩) ?_
      rintro ⟨k, v2⟩ ⟨hk2, hlen2⟩
      simp only at hk2 hlen2 ⊢
      repeat refine At.seq ?_
      refine At.region tab_ok ?_
      conv => whnf
      repeat refine At.seq ?_
      refine At.cond rfl (fun hc => At.skip ?_) (fun hc => At.exit ?_)
      · have hlt : k < d.spans.length := by have := of_decide_eq_true hc; omega
        obtain ⟨s, hs⟩ : ∃ s, d.spans[k]? = some s := ⟨_, List.getElem?_eq_getElem hlt⟩
        have hvs := hv s (List.mem_of_getElem? hs)
        have hcb := hB2 k s hs
        have hsn : mv2 d (d.spans.take (k + 1)) L1 = updR (cutAt s (mv2 d (d.spans.take k) L1)) (cutI s (mv2 d (d.spans.take k) L1)).toNat (cutK s (mv2 d (d.spans.take k) L1) + 1).toNat (movedL d) := by rw [List.take_add_one, hs]; exact mv2_snoc
        generalize mv2 d (d.spans.take k) L1 = L3 at *
        have hcl := cut_len s L3
        have hbI := idx_bound (inLot s.m s.f) (cutAt s L3)
        have hbK := idx_bound (inLot s.m (s.t - 1)) (cutAt s L3)
        change -1 ≤ cutI s L3 ∧ cutI s L3 < _ at hbI
        change -1 ≤ cutK s L3 ∧ cutK s L3 < _ at hbK
        have hIK : 0 ≤ cutI s L3 ∧ cutI s L3 ≤ cutK s L3 := by unfold cutB at hcb; simpa using hcb
        obtain ⟨i0, hi0⟩ : ∃ i : Nat, cutI s L3 = i := ⟨(cutI s L3).toNat, by omega⟩
        obtain ⟨k0, hk0⟩ : ∃ i : Nat, cutK s L3 + 1 = i := ⟨(cutK s L3 + 1).toNat, by omega⟩
        rw [hi0, hk0, Int.toNat_natCast, Int.toNat_natCast] at hsn
        repeat refine At.seq ?_
        refine At.block ?_
        repeat refine At.seq ?_
        refine At.region tab_ok ?_
        conv => whnf
        refine ⟨by omega, ?_⟩
        conv => whnf
        refine ⟨by omega, ?_⟩
        conv => whnf
        refine ⟨encS s, fun w' hw => hu.load (n := 3) hw.fr hs rfl, ?_⟩
        conv => whnf
        intro b3
        conv => whnf
        repeat refine At.seq ?_
        refine At.region tab_ok ?_
        conv => whnf
        refine bk_call (i0 := 0) (i1 := 1) (L := L3) (L' := cutAt s L3) (r := .tup [.c (.i (cutI s L3)), .c (.i (cutK s L3 + 1)), .c (.b (cutB s L3))]) b125 rfl rfl (by decide) rfl (fun w' hw hb => cut_c L3 s b v2 w' hb (by omega) ⟨by omega, by omega⟩) ?_
        rintro v3 hsl3
        conv => whnf
        generalize hL4 : cutAt s L3 = L4 at *
        have hul4 : (updR L4 i0 k0 (movedL d)).length = L4.length := updR_len (by omega) (by omega)
        repeat refine At.seq ?_
        refine At.block ?_
        refine At.loopH (fun j : Nat => { N := Try.f95.ntmps, sl := [(0, some (.s (.c (.p 0 b 0)))), (3, some (.s (.c (.p 2 b2 0)))), (54, some (.x u)), (55, some (.i d.spans.length)), (56, some (.i k)), (13, some (.i j)), (14, some (.i k0))], gl := [], hp := (2, .box b2 54 (encD d u)) :: BkHp b v3 (updR L4 i0 j (movedL d)), S := b :: blkOf v, ws := w })
          (fun j => i0 ≤ j ∧ j ≤ k0) (fun j => k0 - j)
          (fun w' hw => ⟨i0, ⟨Nat.le_refl _, by omega⟩, Le.of rfl rfl ⟨rfl, rfl, rfl, rfl, rfl, congrArg (Value.int .i64) hi0, congrArg (Value.int .i64) hk0, trivial⟩, hw.keep [2, 0, 1] (by rw [updR_zero]; rfl) rfl rfl, ⟨⟨_, _, rfl⟩, ⟨_, _, rfl⟩, trivial⟩, ⟨fun c hc => by simp at hc; subst hc; exact ⟨_, _, _, rfl⟩, (nopL _).okH, trivial⟩⟩) ?_
        intro j ⟨hij, hjk⟩
        repeat refine At.seq ?_
        refine At.region tab_ok ?_
        conv => whnf
        repeat refine At.seq ?_
        refine At.cond rfl (fun hc => At.skip ?_) (fun hc => At.exit ?_)
        · have hjk2 : j < k0 := by have := of_decide_eq_true hc; omega
          obtain ⟨x, hx⟩ : ∃ x, L4[j]? = some x := ⟨_, List.getElem?_eq_getElem (by omega)⟩
          have hgx := updR_get (f := movedL d) hij hx
          have hcl4 : ((updR L4 i0 j (movedL d)).map encL).length = L4.length := by rw [List.length_map, updR_len hij (by omega)]
          have hget : ((updR L4 i0 j (movedL d)).map encL)[j]? = some (encL x) := by rw [List.getElem?_map, hgx]; rfl
          have hjl : j < ((updR L4 i0 j (movedL d)).map encL).length := by omega
          repeat refine At.seq ?_
          refine At.block ?_
          repeat refine At.seq ?_
          refine At.region tab_ok ?_
          conv => whnf
          refine ⟨rfl, ?_⟩
          conv => whnf
          refine ⟨by omega, ?_⟩
          conv => whnf
          refine ⟨by omega, ?_⟩
          conv => whnf
          repeat refine At.seq ?_
          refine At.region tab_ok ?_
          conv => whnf
          repeat refine At.seq ?_
          refine At.block ?_
          repeat refine At.seq ?_
          refine At.region tab_ok ?_
          conv => whnf
          repeat refine At.seq ?_
          refine At.cond rfl (fun hq => ?_) (fun hq => ?_)
          · have hk1 : d.kind = 1 := of_decide_eq_true hq
            have hmv : movedL d x = { x with o := d.who, h := d.who, u := 0 } := by unfold movedL; rw [if_pos hk1]
            repeat refine At.seq ?_
            refine At.plan tab_ok mixed [(2, .box b2 54 (encD d u))] (.take 0 (.take 1 (.take 2 (.take 3 (.take 4 (.take 5 (.take 6 (.take 7 (.take 8 (.br 9 (.take 10 (.take 11 (.br 12 (.take 13 (.take 14 (.br 15 .done .nob))) .nob))) .nob)))))))))) (by kernel_rfl) (by kernel_rfl) ⟨rfl, trivial⟩ ?_
            conv => whnf
            refine ⟨⟨encL x, ⟨rfl, rfl, by omega, hget⟩, ?_⟩, trivial⟩
            conv => whnf
            refine ⟨⟨⟨rfl, trivial⟩, fun w' hw => hw.fr⟩, ?_⟩
            conv => whnf
            refine ⟨⟨encL { x with o := d.who }, ⟨rfl, rfl, by omega, set_get hjl⟩, ?_⟩, trivial⟩
            conv => whnf
            refine ⟨⟨⟨rfl, trivial⟩, fun w' hw => hw.fr⟩, ?_⟩
            conv => whnf
            refine ⟨⟨encL { x with o := d.who, h := d.who }, ⟨rfl, rfl, by omega, set_get (by simpa using hjl)⟩, ?_⟩, trivial⟩
            conv => whnf
            refine ⟨⟨⟨rfl, trivial⟩, fun w' hw => hw.fr⟩, ?_⟩
            conv => whnf
            repeat refine At.seq ?_
            refine At.region tab_ok ?_
            conv => whnf
            refine ⟨⟨by omega, by omega⟩, ?_⟩
            conv => whnf
            refine At.nextH fun w' hw => ⟨j + 1, ⟨by omega, by omega⟩, by omega, Le.of rfl rfl ⟨rfl, rfl, rfl, rfl, rfl, rfl, rfl, trivial⟩, hw.keep [2, 0, 1] ?_ rfl rfl, ⟨⟨_, _, rfl⟩, ⟨_, _, rfl⟩, trivial⟩, ⟨fun c hc => by simp at hc; subst hc; exact ⟨_, _, _, rfl⟩, (nopL _).okH, trivial⟩⟩
            show [(2, LO.box b2 54 _), (0, LO.box b 112 [.o 1 v3]), (1, LO.row v3 58 7 _)] = [(2, LO.box b2 54 _), (0, LO.box b 112 [.o 1 v3]), (1, LO.row v3 58 7 _)]
            rw [← updR_step hij hx, List.map_set]
            simp only [Int.toNat_natCast, List.set_set]
            rw [hmv]
            rfl
          · have hk1 : ¬ d.kind = 1 := of_decide_eq_false hq
            repeat refine At.seq ?_
            refine At.region tab_ok ?_
            conv => whnf
            repeat refine At.seq ?_
            refine At.cond rfl (fun hq => ?_) (fun hq => ?_)
            · have hk2' : d.kind = 2 := of_decide_eq_true hq
              have hmv : movedL d x = { x with h := d.who, u := d.til } := by unfold movedL; rw [if_neg hk1, if_pos hk2']
              repeat refine At.seq ?_
              refine At.plan tab_ok mixed [(2, .box b2 54 (encD d u))] (.take 0 (.take 1 (.take 2 (.take 3 (.take 4 (.take 5 (.take 6 (.take 7 (.br 8 (.take 9 (.take 10 (.br 11 .done .nob))) .nob))))))))) (by kernel_rfl) (by kernel_rfl) ⟨rfl, trivial⟩ ?_
              conv => whnf
              refine ⟨⟨encL x, ⟨rfl, rfl, by omega, hget⟩, ?_⟩, trivial⟩
              conv => whnf
              refine ⟨⟨⟨rfl, trivial⟩, fun w' hw => hw.fr⟩, ?_⟩
              conv => whnf
              refine ⟨⟨encL { x with h := d.who }, ⟨rfl, rfl, by omega, set_get hjl⟩, ?_⟩, trivial⟩
              conv => whnf
              refine ⟨⟨⟨rfl, trivial⟩, fun w' hw => hw.fr⟩, ?_⟩
              conv => whnf
              repeat refine At.seq ?_
              refine At.region tab_ok ?_
              conv => whnf
              refine ⟨⟨by omega, by omega⟩, ?_⟩
              conv => whnf
              refine At.nextH fun w' hw => ⟨j + 1, ⟨by omega, by omega⟩, by omega, Le.of rfl rfl ⟨rfl, rfl, rfl, rfl, rfl, rfl, rfl, trivial⟩, hw.keep [2, 0, 1] ?_ rfl rfl, ⟨⟨_, _, rfl⟩, ⟨_, _, rfl⟩, trivial⟩, ⟨fun c hc => by simp at hc; subst hc; exact ⟨_, _, _, rfl⟩, (nopL _).okH, trivial⟩⟩
              show [(2, LO.box b2 54 _), (0, LO.box b 112 [.o 1 v3]), (1, LO.row v3 58 7 _)] = [(2, LO.box b2 54 _), (0, LO.box b 112 [.o 1 v3]), (1, LO.row v3 58 7 _)]
              rw [← updR_step hij hx, List.map_set]
              simp only [Int.toNat_natCast, List.set_set]
              rw [hmv]
              rfl
            · have hk2' : ¬ d.kind = 2 := of_decide_eq_false hq
              repeat refine At.seq ?_
              refine At.region tab_ok ?_
              conv => whnf
              repeat refine At.seq ?_
              refine At.cond rfl (fun hq => ?_) (fun hq => ?_)
              · have hk3 : d.kind = 3 := of_decide_eq_true hq
                have hmv : movedL d x = { x with p := d.mark } := by unfold movedL; rw [if_neg hk1, if_neg hk2', if_pos hk3]
                repeat refine At.seq ?_
                refine At.region tab_ok ?_
                conv => whnf
                refine ⟨encL x, ⟨rfl, rfl, by omega, hget⟩, ?_⟩
                conv => whnf
                repeat refine At.seq ?_
                refine At.region tab_ok ?_
                conv => whnf
                refine ⟨⟨by omega, by omega⟩, ?_⟩
                conv => whnf
                refine At.nextH fun w' hw => ⟨j + 1, ⟨by omega, by omega⟩, by omega, Le.of rfl rfl ⟨rfl, rfl, rfl, rfl, rfl, rfl, rfl, trivial⟩, hw.keep [2, 0, 1] ?_ rfl rfl, ⟨⟨_, _, rfl⟩, ⟨_, _, rfl⟩, trivial⟩, ⟨fun c hc => by simp at hc; subst hc; exact ⟨_, _, _, rfl⟩, (nopL _).okH, trivial⟩⟩
                show [(2, LO.box b2 54 _), (0, LO.box b 112 [.o 1 v3]), (1, LO.row v3 58 7 _)] = [(2, LO.box b2 54 _), (0, LO.box b 112 [.o 1 v3]), (1, LO.row v3 58 7 _)]
                rw [← updR_step hij hx, List.map_set, Int.toNat_natCast, hmv]
                rfl
              · have hk3 : ¬ d.kind = 3 := of_decide_eq_false hq
                have hmv : movedL d x = x := by unfold movedL; rw [if_neg hk1, if_neg hk2', if_neg hk3]
                refine At.skip ?_
                repeat refine At.seq ?_
                refine At.region tab_ok ?_
                conv => whnf
                refine ⟨⟨by omega, by omega⟩, ?_⟩
                conv => whnf
                refine At.nextH fun w' hw => ⟨j + 1, ⟨by omega, by omega⟩, by omega, Le.of rfl rfl ⟨rfl, rfl, rfl, rfl, rfl, rfl, rfl, trivial⟩, hw.keep [2, 0, 1] ?_ rfl rfl, ⟨⟨_, _, rfl⟩, ⟨_, _, rfl⟩, trivial⟩, ⟨fun c hc => by simp at hc; subst hc; exact ⟨_, _, _, rfl⟩, (nopL _).okH, trivial⟩⟩
                show [(2, LO.box b2 54 _), (0, LO.box b 112 [.o 1 v3]), (1, LO.row v3 58 7 _)] = [(2, LO.box b2 54 _), (0, LO.box b 112 [.o 1 v3]), (1, LO.row v3 58 7 _)]
                rw [← updR_step hij hx, hmv, set_self hgx]
        · have hjk2 : j = k0 := by have := of_decide_eq_false hc; omega
          subst hjk2
          repeat refine At.seq ?_
          refine At.region tab_ok ?_
          conv => whnf
          refine ⟨⟨by omega, by omega⟩, ?_⟩
          conv => whnf
          refine At.nextH fun w' hw => ⟨(k + 1, v3), ⟨by simp only; omega, by simp only; rw [hsn, hul4]; omega⟩, by simp only; omega, Le.of rfl rfl ⟨rfl, rfl, rfl, rfl, rfl, trivial⟩, hw.keep [2, 0, 1] (by simp only; rw [hsn]; rfl) rfl rfl, ⟨⟨_, _, rfl⟩, ⟨_, _, rfl⟩, trivial⟩, ⟨fun c hc => by simp at hc; subst hc; exact ⟨_, _, _, rfl⟩, (nopL _).okH, trivial⟩⟩
      · have hge : k = d.spans.length := by have := of_decide_eq_false hc; omega
        subst hge
        rw [List.take_length]
        repeat refine At.seq ?_
        refine At.region tab_ok ?_
        conv => whnf
        repeat refine At.seq ?_
        refine At.ret (At.doneB tab_ok hB _ rfl fun w' hw => bk_done (i0 := 0) (i1 := 1) (r := .i 0) hw rfl rfl (by decide) rfl rfl)
end Go.Proofs.Ytjilbkioieicbaa
