/- Walks: the book is cut. -/
import Derived.Test.YtjilbkioieicbaaR5
namespace Go.Proofs.Ytjilbkioieicbaa
open Go.Vc Rt
set_option linter.unusedVariables false
set_option linter.unusedSimpArgs false
/-- A call of slices.Insert. -/
theorem ins_call {st : St} {d : Option Nat} {K : St → Prop} {i0 i1 : Nat} {v u : Value} {L : List Lot} {x : Lot} {args : List Value} (i : Nat) (ha : args = [v, vI i, u]) (h0 : Vc.look st.hp i0 = some (.row v 58 7 (L.map encL))) (h1 : Vc.look st.hp i1 = some (.row u 58 7 [encL x])) (hne : i1 ≠ i0)
    (hi : i ≤ L.length) (hN : L.length ≤ 1000000)
    (hk : ∀ v' : Value, hpSetK st.hp i0 (.row v' 58 7 ((insL L i x).map encL)) (fun hp => hpSetK hp i1 (.row u 58 7 [encL x]) (fun hp' => st.withHp hp' (fun st' => goPut st' d (.s (.c (.o i0 v'))) K)))) : UCall Try.prog st 124 args d K :=
  .inl ⟨b124, fun hwf w hw => by
    subst ha
    refine (insert_c L i hi x v u w (hw.row h0) (hw.row h1) (disj_of hw.nodup h0 h1 (fun e => hne e.symm)) hN).mono ?_
    rintro e w' ⟨v', he, hr, hru, hf, hbl⟩
    have hk' := hk v'
    rw [hpSetK_eq, hpSetK_eq] at hk'
    have hl1' : Vc.look (hpSet st.hp i0 (.row v' 58 7 ((insL L i x).map encL))) i1 = some (.row u 58 7 [encL x]) := by rw [look_hpSet_other hne]; exact h1
    have hwf1 := hwf.setO h0 (o' := .row v' 58 7 ((insL L i x).map encL)) (fun _ _ _ e => by cases e) ⟨rows_some hr, (nopL _).ok⟩
    have hwf2 := hwf1.setO (id := i1) (o := .row u 58 7 [encL x]) (o' := .row u 58 7 [encL x]) hl1' (fun _ _ _ e => by cases e) ⟨rows_some hru, (nopL [x]).ok⟩
    exact ⟨.s (.c (.o i0 v')), st.setHp (hpSet (hpSet st.hp i0 (.row v' 58 7 ((insL L i x).map encL))) i1 (.row u 58 7 [encL x])), he, ⟨rfl, rfl, rfl, rfl⟩, hwf2, ownsAt_slice hr.1, hw.set2 h0 h1 hne hf hr hru hbl (fun c hc => hc), hk'⟩⟩
theorem split_hit {m n : Int} {l : Lot} : ∀ {L : List Lot} {k : Nat}, L[k]? = some l → cutsIn m n l = true → (∀ j y, j < k → L[j]? = some y → cutsIn m n y = false) → insL (L.set k (lotTo l n)) (k + 1) (lotFrom l n) = split m n L
  | [], k, h, _, _ => by simp at h
  | x :: L, 0, h, hc, _ => by
    simp at h; subst h
    simp [split, hc, insL]
  | x :: L, k + 1, h, hc, hall => by
    have h0 := hall 0 x (by omega) (by simp)
    have ih := split_hit (L := L) (k := k) (by simpa using h) hc (fun j y hj hy => hall (j + 1) y (by omega) (by simpa using hy))
    simp only [split, h0, Bool.false_eq_true, if_false]
    rw [← ih]
    simp [insL]
theorem split_miss {m n : Int} : ∀ {L : List Lot}, (∀ (j : Nat) y, L[j]? = some y → cutsIn m n y = false) → split m n L = L
  | [], _ => rfl
  | x :: L, h => by
    have h0 := h 0 x (by simp)
    simp only [split, h0, Bool.false_eq_true, if_false]
    rw [split_miss fun j y hy => h (j + 1) y (by simpa using hy)]
theorem split_len (m n : Int) : ∀ (L : List Lot), (split m n L).length ≤ L.length + 1
  | [] => by simp [split]
  | x :: L => by
    have := split_len m n L
    simp only [split]
    split <;> simp <;> omega
theorem split_c (L : List Lot) (m n : Int) (b : Nat) (v : Value) (w : World) (h : Bk w b v L) (hN : L.length ≤ 1000000) : BkC 144 [ptr b, vI m, vI n] b v (split m n L) (.tup []) w := by
  have hh := enter_bk (N := Try.f144.ntmps) (l := [.s (.c (.p 0 b 0)), .i m, .i n]) h
  have hlm : (L.map encL).length = L.length := by simp
  refine calls_atB _ _ _ Try.func144 rfl rfl (Nat.le_of_ble_eq_true rfl) (WF.objs hh ⟨⟨_, _, rfl⟩, trivial⟩ ⟨fun c hc => by simp at hc; subst hc; exact ⟨_, _, _, rfl⟩, (nopL _).okH, trivial⟩) hh fun B hB => ?_
  repeat refine At.seq ?_
  refine At.region tab_ok ?_
  conv => whnf
  refine ⟨rfl, ?_⟩
  conv => whnf
  repeat refine At.seq ?_
  refine At.block ?_
  refine At.loopH (fun k : Nat => { N := Try.f144.ntmps, sl := [(0, some (.s (.c (.p 0 b 0)))), (1, some (.i m)), (2, some (.i n)), (12, some (.s (.c (.o 1 v)))), (13, some (.i L.length)), (14, some (.i k))], gl := [], hp := BkHp b v L, S := b :: blkOf v, ws := w }) (fun k => k ≤ L.length ∧ ∀ j y, j < k → L[j]? = some y → cutsIn m n y = false) (fun k => L.length - k)
    (fun w' hw => ⟨0, ⟨Nat.zero_le _, fun j y hj => by omega⟩, Le.of rfl rfl ⟨rfl, rfl, rfl, rfl, congrArg (Value.int .i64) (by simp), rfl, trivial⟩, hw.same rfl rfl rfl, ⟨⟨_, _, rfl⟩, ⟨_, _, _, rfl⟩, trivial⟩, ⟨fun c hc => by simp at hc; subst hc; exact ⟨_, _, _, rfl⟩, (nopL _).okH, trivial⟩⟩) ?_
  intro k ⟨hk, hall⟩
  repeat refine At.seq ?_
  refine At.region tab_ok ?_
  conv => whnf
  repeat refine At.seq ?_
  refine At.cond rfl (fun hc => At.skip ?_) (fun hc => At.exit ?_)
  · have hlt : k < L.length := by have := of_decide_eq_true hc; omega
    obtain ⟨x, hx⟩ : ∃ x, L[k]? = some x := ⟨_, List.getElem?_eq_getElem hlt⟩
    repeat refine At.seq ?_
    refine At.block ?_
    repeat refine At.seq ?_
    refine At.region tab_ok ?_
    conv => whnf
    refine ⟨rfl, ?_⟩
    conv => whnf
    refine ⟨by omega, ?_⟩
    conv => whnf
    refine ⟨by omega, ?_⟩
    conv => whnf
    refine ⟨encL x, ⟨rfl, rfl, by omega, by simp [hx]⟩, ?_⟩
    conv => whnf
    intro b2
    conv => whnf
    repeat refine At.seq ?_
    refine At.region tab_ok ?_
    conv => whnf
    have hcut : ∀ t : Bool, (bif (bif decide (x.s.m = m) then decide (x.s.f < n) else false) then decide (n < x.s.t) else false) = t → cutsIn m n x = t := fun t ht => by
      rw [← ht]; simp only [band, cutsIn, Bool.and_assoc]
    repeat refine At.seq ?_
    refine At.cond rfl (fun hq => ?_) (fun hq => ?_)
    · have hhit := split_hit hx (hcut _ hq) hall
      have hset : (L.map encL).set k (encL (lotTo x n)) = (L.set k (lotTo x n)).map encL := by rw [List.map_set]
      have hsl : (L.set k (lotTo x n)).length = L.length := by simp
      generalize hL1 : L.set k (lotTo x n) = L1 at hhit hset hsl
      repeat refine At.seq ?_
      refine At.region tab_ok ?_
      conv => whnf
      intro b3
      conv => whnf
      repeat refine At.seq ?_
      refine At.region tab_ok ?_
      conv => whnf
      refine ⟨rfl, ?_⟩
      conv => whnf
      refine ⟨by omega, ?_⟩
      conv => whnf
      refine ⟨by omega, ?_⟩
      conv => whnf
      refine ⟨encL x, ⟨rfl, rfl, by omega, by simp [hx]⟩, ?_⟩
      conv => whnf
      refine At.reshapeH fun w' hw => ⟨{ N := Try.f144.ntmps, sl := [(0, some (.s (.c (.p 0 b 0)))), (6, some (.i k)), (8, some (.s (.c (.p 3 b3 0))))], gl := [], hp := [(3, .box b3 58 (encL (lotFrom x n))), (0, .box b 112 [.o 1 v]), (1, .row v 58 7 (L1.map encL))], S := b :: blkOf v, ws := w }, Le.of rfl rfl ⟨rfl, rfl, rfl, trivial⟩, hw.keep [3, 0, 1] ?_ rfl rfl, ⟨⟨_, _, rfl⟩, ⟨_, _, rfl⟩, trivial⟩, ⟨fun c hc => by simp at hc; subst hc; exact ⟨_, _, _, rfl⟩, (nopL _).okH, trivial⟩, ?_⟩
      · show [(3, LO.box b3 58 _), (0, LO.box b 112 [.o 1 v]), (1, LO.row v 58 7 _)] = [(3, LO.box b3 58 _), (0, LO.box b 112 [.o 1 v]), (1, LO.row v 58 7 _)]
        rw [← hset, Int.toNat_natCast]
        rfl
      repeat refine At.seq ?_
      refine At.plan tab_ok mixed [(3, .box b3 58 (encL (lotFrom x n)))] (.take 0 (.take 1 (.take 2 (.take 3 (.take 5 (.take 6 (.take 7 (.br 4 (.br 8 (.br 9 (.take 10 (.take 11 (.br 12 .done .nob))) .nob) .nob) (.br 8 (.br 4 (.br 9 (.take 10 (.take 11 (.br 12 .done .nob))) .nob) .nob) .nob))))))))) (by kernel_rfl) (by kernel_rfl) ⟨rfl, trivial⟩ ?_
      conv => whnf
      refine ⟨⟨by omega, by omega⟩, ?_⟩
      conv => whnf
      refine ⟨?_, ?_, trivial⟩
      · refine ⟨⟨⟨rfl, trivial⟩, fun w' hw => hw.fr⟩, ?_⟩
        conv => whnf
        refine ⟨?_, trivial⟩
        intro u
        conv => whnf
        refine ⟨⟨⟨rfl, trivial⟩, fun w' hw => hw.fr⟩, ?_⟩
        conv => whnf
        refine ⟨ins_call (i0 := 1) (i1 := 4) (L := L1) (x := lotFrom x n) (k + 1) rfl rfl rfl (by decide) (by omega) (by omega) ?_, trivial⟩
        intro v'
        conv => whnf
        refine ⟨⟨⟨rfl, trivial⟩, fun w' hw => hw.fr⟩, ?_⟩
        conv => whnf
        refine ⟨⟨⟨⟨rfl, trivial⟩, fun w' hw => hw.fr⟩, ?_⟩, trivial⟩
        conv => whnf
        repeat refine At.seq ?_
        refine At.ret (At.doneB tab_ok hB _ rfl fun w' hw => bk_done (i0 := 0) (i1 := 1) hw rfl (by rw [← hhit]; rfl) (by decide) rfl rfl)
      · intro u
        conv => whnf
        refine ⟨⟨⟨rfl, trivial⟩, fun w' hw => hw.fr⟩, ?_⟩
        conv => whnf
        refine ⟨⟨⟨⟨rfl, trivial⟩, fun w' hw => hw.fr⟩, ?_⟩, trivial⟩
        conv => whnf
        refine ⟨ins_call (i0 := 1) (i1 := 4) (L := L1) (x := lotFrom x n) (k + 1) rfl rfl rfl (by decide) (by omega) (by omega) ?_, trivial⟩
        intro v'
        conv => whnf
        refine ⟨⟨⟨rfl, trivial⟩, fun w' hw => hw.fr⟩, ?_⟩
        conv => whnf
        refine ⟨⟨⟨⟨rfl, trivial⟩, fun w' hw => hw.fr⟩, ?_⟩, trivial⟩
        conv => whnf
        repeat refine At.seq ?_
        refine At.ret (At.doneB tab_ok hB _ rfl fun w' hw => bk_done (i0 := 0) (i1 := 1) hw rfl (by rw [← hhit]; rfl) (by decide) rfl rfl)
    · refine At.skip ?_
      repeat refine At.seq ?_
      refine At.region tab_ok ?_
      conv => whnf
      refine ⟨⟨by omega, by omega⟩, ?_⟩
      conv => whnf
      refine At.nextH fun w' hw => ⟨k + 1, ⟨by omega, fun j y hj hy => ?_⟩, by omega, Le.of rfl rfl ⟨rfl, rfl, rfl, rfl, rfl, rfl, trivial⟩, hw.keep [0, 1] rfl rfl rfl, ⟨⟨_, _, rfl⟩, ⟨_, _, _, rfl⟩, trivial⟩, ⟨fun c hc => by simp at hc; subst hc; exact ⟨_, _, _, rfl⟩, (nopL _).okH, trivial⟩⟩
      rcases Nat.lt_or_ge j k with hj' | hj'
      · exact hall j y hj' hy
      · obtain rfl : j = k := by omega
        rw [hx] at hy; cases hy; exact hcut _ hq
  · have hge : k = L.length := by have := of_decide_eq_false hc; omega
    subst hge
    rw [split_miss (fun j y hy => hall j y (List.getElem?_eq_some_iff.1 hy).1 hy)] at hB
    refine At.doneN tab_ok hB _ rfl fun w' hw => ?_
    exact bk_done (i0 := 0) (i1 := 1) hw rfl rfl (by decide) rfl rfl
end Go.Proofs.Ytjilbkioieicbaa
