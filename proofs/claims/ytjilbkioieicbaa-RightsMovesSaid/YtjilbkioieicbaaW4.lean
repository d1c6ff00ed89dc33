/- Walks: DeleteFunc, the order of spans. -/
import Derived.Test.YtjilbkioieicbaaW3
namespace Go.Proofs.Ytjilbkioieicbaa
open Go.Vc Rt
set_option linter.unusedVariables false
set_option linter.unusedSimpArgs false
/-- A function that changes a row, and answers a slice of it. -/
def RowC (f : FuncId) (args : List Value) (E size : Nat) (v : Value) (L' : List (List CV)) (w : World) : Prop :=
  Calls Try.prog f args.toArray w (fun e w' => ∃ v', e = .returned v' ∧ (LO.row v' E size L').holds w' ∧ Fr (blkOf v) w w' ∧ ∀ b ∈ blkOf v', b ∈ blkOf v)
theorem enter_row {N : Nat} {l : List RV} {v : Value} {E size : Nat} {L : List (List CV)} {w : World} (h : (LO.row v E size L).holds w) : Holds (St.enter N l [(0, .row v E size L)] (blkOf v) w) w := by
  refine ⟨fun o ho => ?_, ?_, Fr.refl _ _, fun b hb => Or.inl ?_⟩
  · rcases List.mem_cons.1 ho with rfl | ho
    · exact h
    · cases ho
  · have : (St.enter N l [(0, .row v E size L)] (blkOf v) w).blks = (LO.row v E size L).blks := by simp [St.enter, St.blks]
    rw [this]; exact LO.nodup
  · simpa [St.enter, St.blks, LO.blks] using hb
theorem part_none {α : Type} {p : α → Bool} {xs : List α} (h : xs.findIdx? p = none) : xs.filter (fun x => !p x) = xs := by
  rw [List.findIdx?_eq_none_iff] at h
  rw [List.filter_eq_self]
  intro x hx; rw [h x hx]; rfl
theorem part_some {α : Type} {p : α → Bool} {xs : List α} {k : Nat} (h : xs.findIdx? p = some k) : (xs.take (k + 1)).filter (fun x => !p x) = xs.take k ∧ k < xs.length := by
  rw [List.findIdx?_eq_some_iff_getElem] at h
  obtain ⟨hlt, hp, hall⟩ := h
  refine ⟨?_, hlt⟩
  rw [List.take_add_one, List.getElem?_eq_getElem hlt, List.filter_append]
  have e1 : (xs.take k).filter (fun x => !p x) = xs.take k := by
    rw [List.filter_eq_self]
    intro x hx
    obtain ⟨j, hj, e⟩ := List.getElem_of_mem hx
    rw [List.length_take] at hj
    rw [List.getElem_take] at e
    have := hall j (by omega)
    rw [e] at this
    simpa using this
  rw [e1]; simp [hp]
theorem keep_store {xs F : List Span} {x : Span} (hF : F.length < xs.length) : ((F ++ xs.drop F.length).map encS).set F.length (encS x) = ((F ++ [x]) ++ xs.drop (F ++ [x]).length).map encS := by
  rw [List.drop_eq_getElem_cons hF, List.map_append, List.map_cons, List.set_append_right _ _ (by simp)]
  simp only [List.length_map, Nat.sub_self, List.set_cons_zero, List.map_append, List.length_append, List.length_cons, List.length_nil, List.append_assoc, List.map_cons, List.map_nil, List.cons_append, List.nil_append, Nat.zero_add]
theorem filter_take {p : Span → Bool} {xs : List Span} {j : Nat} {x : Span} (hx : xs[j]? = some x) : (xs.take (j + 1)).filter p = (xs.take j).filter p ++ (if p x then [x] else []) := by
  rw [List.take_add_one, hx, List.filter_append]
  simp [List.filter_cons]
theorem splice_all {L : List (List CV)} {k : Nat} (hk : k ≤ L.length) (R : List (List CV)) (hR : R.length = L.length - k) : (spliceR L R k).take k = L.take k := by
  unfold spliceR
  rw [List.append_assoc, List.take_append_of_le_length (by simp; omega), List.take_take, Nat.min_self]
theorem deleteS_c (xs : List Span) (v : Value) (w : World) (h : (LO.row v 56 3 (xs.map encS)).holds w) (hN : xs.length ≤ 1000000) (g : Nat) (caps : Array Value) (p : Span → Bool) (hg : Body Try.prog g)
    (hf : ∀ x ∈ xs, ∀ w', Fr (blkOf v) w w' → Ans Try.prog g (vS x :: caps.toList) (.b (p x)) w') : RowC 96 [v, .func (.func g) #[] caps] 56 3 v ((xs.filter (fun x => !p x)).map encS) w := by
  refine calls_atB [.s (.c (.o 0 v)), .x (.func (.func g) #[] caps)] [(0, .row v 56 3 (xs.map encS))] (blkOf v) Try.func96 rfl rfl (Nat.le_of_ble_eq_true rfl) (WF.objs (enter_row h) ⟨⟨_, _, _, rfl⟩, trivial⟩ ⟨(nopS xs).okH, trivial⟩) (enter_row h) fun B hB => ?_
  repeat refine At.seq ?_
  refine At.region tab_ok ?_
  conv => whnf
  repeat refine At.seq ?_
  refine At.region tab_ok ?_
  conv => whnf
  refine ans_call b128 rfl (fun w' hw => indexS_c xs [] v w' (SlOf.of_row (hw.row (id := 0) rfl) (fun b hb hb' => by cases hb') (by omega)) g caps p hg (fun x hx w'' hx' => hf x hx w'' (hw.fr.trans (hx'.fr _)))) ?_
  conv => whnf
  repeat refine At.seq ?_
  refine At.region tab_ok ?_
  conv => whnf
  repeat refine At.seq ?_
  refine At.cond rfl (fun hq => ?_) (fun hq => ?_)
  · have hn : xs.findIdx? p = none := by
      have := of_decide_eq_true hq
      unfold idxOf at this
      split at this
      · omega
      · rename_i e; exact e
    repeat refine At.seq ?_
    refine At.region tab_ok ?_
    conv => whnf
    repeat refine At.seq ?_
    refine At.ret (At.doneB tab_ok hB _ rfl fun w' hw => ⟨_, rfl, by rw [part_none hn]; exact hw.row (id := 0) rfl, hw.fr, fun b hb => hb⟩)
  · obtain ⟨k0, hk0⟩ : ∃ k, xs.findIdx? p = some k := by
      have := of_decide_eq_false hq
      unfold idxOf at this
      split at this
      · rename_i i e; exact ⟨i, e⟩
      · exact absurd rfl this
    have hi0 : idxOf p xs = k0 := by unfold idxOf; rw [hk0]
    obtain ⟨hF0, hk0l⟩ := part_some hk0
    refine At.skip ?_
    repeat refine At.seq ?_
    refine At.region tab_ok ?_
    conv => whnf
    refine ⟨by rw [hi0]; exact ⟨by omega, by omega⟩, ?_⟩
    conv => whnf
    repeat refine At.seq ?_
    refine At.block ?_
    refine At.loopH (fun j : Nat => { N := Try.f96.ntmps, sl := [(0, some (.s (.c (.o 0 v)))), (1, some (.x (.func (.func g) #[] caps))), (5, some (.i ((xs.take j).filter (fun x => !p x)).length)), (6, some (.i j))], gl := [], hp := [(0, .row v 56 3 (((xs.take j).filter (fun x => !p x) ++ xs.drop ((xs.take j).filter (fun x => !p x)).length).map encS))], S := blkOf v, ws := w }) (fun j => j ≤ xs.length ∧ ((xs.take j).filter (fun x => !p x)).length < j) (fun j => xs.length - j)
      (fun w' hw => ⟨k0 + 1, ⟨by omega, by rw [hF0]; simp; omega⟩, Le.of rfl rfl ⟨rfl, rfl, congrArg (Value.int .i64) (by rw [hi0, hF0]; simp; omega), congrArg (Value.int .i64) (by rw [hi0]; rfl), trivial⟩, ?_, ⟨⟨_, _, _, rfl⟩, trivial⟩, ⟨(nopS _).okH, trivial⟩⟩) ?_
    · refine hw.same ?_ rfl rfl
      show [(0, LO.row v 56 3 _)] = [(0, LO.row v 56 3 _)]
      rw [hF0, show (xs.take k0).length = k0 by simp; omega, List.take_append_drop]
    intro j ⟨hj, hFl⟩
    generalize hFd : (xs.take j).filter (fun x => !p x) = F at hFl
    have hFx : F.length < xs.length := by omega
    repeat refine At.seq ?_
    refine At.region tab_ok ?_
    conv => whnf
    refine ⟨rfl, ?_⟩
    conv => whnf
    repeat refine At.seq ?_
    refine At.cond rfl (fun hc => At.skip ?_) (fun hc => At.exit ?_)
    · have hlt : j < xs.length := by have := of_decide_eq_true hc; simp at this; omega
      obtain ⟨x, hx⟩ : ∃ x, xs[j]? = some x := ⟨_, List.getElem?_eq_getElem hlt⟩
      have hrow : ((F ++ xs.drop F.length).map encS)[j]? = some (encS x) := by
        rw [List.getElem?_map, List.getElem?_append_right (by omega), List.getElem?_drop, show F.length + (j - F.length) = j by omega, hx]; rfl
      have hrow' : ((F ++ xs.drop F.length).map encS)[F.length]? = some (encS xs[F.length]) := by
        rw [List.getElem?_map, List.getElem?_append_right (by omega), List.getElem?_drop, List.getElem?_eq_getElem (by omega)]; simp
      repeat refine At.seq ?_
      refine At.block ?_
      repeat refine At.seq ?_
      refine At.region tab_ok ?_
      conv => whnf
      refine ⟨rfl, ?_⟩
      conv => whnf
      refine ⟨by omega, ?_⟩
      conv => whnf
      refine ⟨by simp; omega, ?_⟩
      conv => whnf
      refine ⟨encS x, ⟨rfl, rfl, by omega, hrow⟩, ?_⟩
      conv => whnf
      intro b
      conv => whnf
      repeat refine At.seq ?_
      refine At.region tab_ok ?_
      conv => whnf
      refine ans_call hg rfl (fun w' hw => hf x (List.mem_of_getElem? hx) w' hw.fr) ?_
      conv => whnf
      repeat refine At.seq ?_
      refine At.cond rfl (fun hq => ?_) (fun hq => ?_)
      · repeat refine At.seq ?_
        refine At.region tab_ok ?_
        conv => whnf
        refine ⟨rfl, ?_⟩
        conv => whnf
        refine ⟨by omega, ?_⟩
        conv => whnf
        refine ⟨by simp; omega, ?_⟩
        conv => whnf
        refine ⟨_, ⟨rfl, rfl, by omega, hrow'⟩, ?_⟩
        conv => whnf
        repeat refine At.seq ?_
        refine At.region tab_ok ?_
        conv => whnf
        refine ⟨⟨by omega, by omega⟩, ?_⟩
        conv => whnf
        repeat refine At.seq ?_
        refine At.region tab_ok ?_
        conv => whnf
        refine ⟨⟨by omega, by omega⟩, ?_⟩
        conv => whnf
        have hnx : (xs.take (j + 1)).filter (fun x => !p x) = F ++ [x] := by rw [filter_take hx, hFd, if_pos hq]
        refine At.nextH fun w' hw => ⟨j + 1, ⟨by omega, by rw [hnx]; simp; omega⟩, by omega, Le.of rfl rfl ⟨rfl, rfl, congrArg (Value.int .i64) (by rw [hnx]; simp), rfl, trivial⟩, hw.keep [0] ?_ rfl rfl, ⟨⟨_, _, _, rfl⟩, trivial⟩, ⟨(nopS _).okH, trivial⟩⟩
        show [(0, LO.row v 56 3 _)] = [(0, LO.row v 56 3 _)]
        rw [hnx]
        congr 3
        exact (keep_store hFx).symm
      · refine At.skip ?_
        repeat refine At.seq ?_
        refine At.region tab_ok ?_
        conv => whnf
        refine ⟨⟨by omega, by omega⟩, ?_⟩
        conv => whnf
        have hnx : (xs.take (j + 1)).filter (fun x => !p x) = F := by rw [filter_take hx, hFd]; simp [hq]
        refine At.nextH fun w' hw => ⟨j + 1, ⟨by omega, by rw [hnx]; omega⟩, by omega, Le.of rfl rfl ⟨rfl, rfl, congrArg (Value.int .i64) (by rw [hnx]), rfl, trivial⟩, hw.keep [0] ?_ rfl rfl, ⟨⟨_, _, _, rfl⟩, trivial⟩, ⟨(nopS _).okH, trivial⟩⟩
        show [(0, LO.row v 56 3 _)] = [(0, LO.row v 56 3 _)]
        rw [hnx]
    · have hge : j = xs.length := by have := of_decide_eq_false hc; simp at this; omega
      subst hge
      have hFe : xs.filter (fun x => !p x) = F := by rw [← hFd, List.take_length]
      have hll : ((F ++ xs.drop F.length).map encS).length = xs.length := by simp; omega
      repeat refine At.seq ?_
      refine At.region tab_ok ?_
      conv => whnf
      refine ⟨rfl, ?_⟩
      conv => whnf
      refine ⟨by omega, ?_⟩
      conv => whnf
      refine ⟨by omega, ?_⟩
      conv => whnf
      refine ⟨Or.inl (by omega), ?_⟩
      conv => whnf
      refine ⟨0, F.length, ?_⟩
      conv => whnf
      refine ⟨⟨by rw [hll], by rw [hll]; omega⟩, ?_⟩
      conv => whnf
      repeat refine At.seq ?_
      refine At.region tab_ok ?_
      conv => whnf
      refine ⟨rfl, ?_⟩
      conv => whnf
      refine ⟨by omega, ?_⟩
      conv => whnf
      refine ⟨by omega, ?_⟩
      conv => whnf
      refine ⟨Or.inl (by rw [spliceR_length (by simp <;> omega), hll]; omega), ?_⟩
      conv => whnf
      repeat refine At.seq ?_
      refine At.ret (At.doneB tab_ok hB _ rfl fun w' hw => ⟨_, rfl, ?_, hw.fr, blkOf_sub⟩)
      have hr := row_prefix (hw.row (id := 0) rfl) (n := F.length) (by rw [spliceR_length (by simp <;> omega), hll]; omega)
      rw [splice_all (by rw [hll]; omega) _ (by simp)] at hr
      rw [hFe]
      have e : ((F ++ xs.drop F.length).map encS).take F.length = F.map encS := by rw [← List.map_take]; simp
      rw [e] at hr
      exact hr
end Go.Proofs.Ytjilbkioieicbaa
