/- Walks: slices.Insert at lots. -/
import Derived.Test.YtjilbkioieicbaaR4
import Derived.Lib.Overlaps
import Derived.Laws.Externs
namespace Go.Proofs.Ytjilbkioieicbaa
open Go.Vc Rt
set_option linter.unusedVariables false
set_option linter.unusedSimpArgs false
def insL (L : List Lot) (i : Nat) (x : Lot) : List Lot := L.take i ++ [x] ++ L.drop i
def insPost (v u : Value) (L' : List Lot) (x : Lot) (w : World) : Ending → World → Prop := fun e w' =>
  ∃ v', e = .returned v' ∧ (LO.row v' 58 7 (L'.map encL)).holds w' ∧ (LO.row u 58 7 [encL x]).holds w' ∧ Fr (blkOf v ++ blkOf u) w w' ∧ (∀ c ∈ blkOf v', c ∈ blkOf v ∨ w.heap.size ≤ c)
theorem ins_done {st : St} {w w' : World} (hw : Holds st w') {v u v' : Value} {L' : List Lot} {x : Lot} {id : Nat} (h0 : Vc.look st.hp id = some (.row v' 58 7 (L'.map encL))) (h1 : Vc.look st.hp 1 = some (.row u 58 7 [encL x])) (hne : id ≠ 1)
    (hS : st.S = blkOf v ++ blkOf u) (hws : st.ws = w) : insPost v u L' x w (.returned v') w' := by
  subst hws
  refine ⟨v', rfl, hw.row h0, hw.row h1, by have := hw.fr; rw [hS] at this; exact this, fun c hc => ?_⟩
  rcases hw.fresh h0 c hc with h | h
  · rw [hS] at h
    rcases List.mem_append.1 h with h | h
    · exact .inl h
    · exact (disj_of hw.nodup h0 h1 hne c hc h).elim
  · exact .inr h
theorem srcN_sub {w : World} {v : Value} {E size : Nat} {L rows : List (List CV)} (h : (LO.row v E size L).holds w) {lo hi k : Nat} (h1 : lo ≤ hi) (h2 : hi ≤ L.length) (hk : k ≤ hi - lo) (hr : rows = (L.drop lo).take k) (hone : ∀ l ∈ rows, ∀ c ∈ l, c.den.oneCell' = true) {lo' hi' : Int} (e1 : lo' = lo) (e2 : hi' = hi) :
    SrcN w (subV v size lo' hi') size rows k := by
  subst e1 e2
  obtain ⟨⟨hlen, hv⟩, hL⟩ := h
  have hrl : rows.length = k := by rw [hr]; simp; omega
  refine ⟨fun l hl => hL l (by rw [hr] at hl; exact List.mem_of_mem_drop (List.mem_of_mem_take hl)), hone, ?_⟩
  rcases hv with ⟨rfl, h0⟩ | ⟨g, o, cap, cur, rfl, hg, hnc, hcm, hcs, htake⟩
  · have : lo = 0 := by omega
    have : hi = 0 := by omega
    subst lo hi
    exact .inr ⟨0, by simp [subV], List.eq_nil_of_length_eq_zero (by omega)⟩
  · have hb : ∃ a', (subV (.slice (some ⟨g, o, none⟩) L.length cap) size (lo : Int) (hi : Int)) = .slice (some a') (hi - lo) (cap - lo) ∧ (cap ≠ lo → a' = ⟨g, o + lo * size, none⟩) := by
      simp only [subV, Int.toNat_natCast]
      by_cases hc : cap = lo
      · exact ⟨_, by rw [if_pos hc], fun h => absurd hc h⟩
      · exact ⟨_, by rw [if_neg hc, Option.map_some], fun _ => addr_add _ _ _⟩
    obtain ⟨a', e, ha⟩ := hb
    refine .inl ⟨a', hi - lo, cap - lo, e, by rw [hrl]; exact (Nat.min_eq_right hk).symm, fun j y hy => ?_⟩
    have hj : j < k * size := by
      rcases Nat.lt_or_ge j (k * size) with h' | h'
      · exact h'
      · rw [List.getElem?_eq_none (by simp only [dens, List.length_map]; rw [flatten_len (size := size) (fun l hl => hL l (by rw [hr] at hl; exact List.mem_of_mem_drop (List.mem_of_mem_take hl))), hrl]; exact h')] at hy; cases hy
    have hkpos : 0 < k := Nat.pos_of_ne_zero fun h0 => by subst h0; simp at hj
    rw [ha (by omega), addr_add, cell_of_row w g _ _ _ _ hg]
    have e3 : (dens L.flatten)[lo * size + j]? = some y := by
      rw [hr, flatten_take (size := size) (fun l hl => hL l (List.mem_of_mem_drop hl)), flatten_drop hL] at hy
      simp only [dens, List.map_take, List.map_drop] at hy ⊢
      rw [List.getElem?_take_of_lt hj, List.getElem?_drop] at hy
      exact hy
    have hlt : lo * size + j < L.length * size := by
      have : (lo + k) * size ≤ L.length * size := Nat.mul_le_mul_right _ (by omega)
      rw [Nat.add_mul] at this; omega
    rw [← htake, List.getElem?_take_of_lt hlt, List.getElem?_drop] at e3
    rw [Nat.add_assoc]
    simpa using e3
theorem onesL (xs : List Lot) : ∀ l ∈ xs.map encL, ∀ c ∈ l, c.den.oneCell' = true := fun l hl c hc => by obtain ⟨y, _, rfl⟩ := List.mem_map.1 hl; exact intsOnly_one (encL_ints y) c hc
theorem splice_a {A D R : List (List CV)} {c : List CV} {i : Nat} (hA : A.length = i) (hR : R.length = D.length + 1) : spliceR (spliceR (A ++ R) [c] i) D (i + 1) = A ++ [c] ++ D := by
  subst hA
  have e2 : spliceR (A ++ R) [c] A.length = A ++ [c] ++ R.drop 1 := by
    unfold spliceR
    rw [List.take_left, show A.length + [c].length = A.length + 1 from rfl, List.drop_append, List.drop_eq_nil_of_le (Nat.le_add_right _ _), List.nil_append, Nat.add_sub_cancel_left]
  have e3 : (A ++ [c]).length = A.length + 1 := by simp
  rw [e2]
  unfold spliceR
  have t1 : (A ++ [c] ++ R.drop 1).take (A.length + 1) = A ++ [c] := by rw [← e3]; exact List.take_left
  have t2 : (A ++ [c] ++ R.drop 1).drop (A.length + 1 + D.length) = [] := List.drop_eq_nil_of_le (by rw [List.length_append, e3, List.length_drop]; omega)
  rw [t1, t2, List.append_nil]
theorem ins_splice {L : List Lot} {i : Nat} (hi : i ≤ L.length) {x : Lot} {R : List (List CV)} (hR : R.length = L.length + 1 - i) : spliceR (spliceR ((L.take i).map encL ++ R) [encL x] i) ((L.drop i).map encL) (i + 1) = (insL L i x).map encL := by
  rw [splice_a (by simp; omega) (by simp; omega)]
  simp [insL]
theorem splice_b {X D J : List (List CV)} {c : List CV} {i : Nat} (hi : i ≤ X.length) (hD : D = X.drop i) (hJ : J.length = 1) : spliceR (spliceR (X ++ J) D (i + 1)) [c] i = X.take i ++ [c] ++ D := by
  have hDl : D.length = X.length - i := by rw [hD]; simp
  have hXJ : (X ++ J).length = X.length + 1 := by simp [hJ]
  have e1 : spliceR (X ++ J) D (i + 1) = (X ++ J).take (i + 1) ++ D := by
    unfold spliceR
    have : (X ++ J).drop (i + 1 + D.length) = [] := List.drop_eq_nil_of_le (by omega)
    rw [this, List.append_nil]
  have e2 : ((X ++ J).take (i + 1)).length = i + 1 := by rw [List.length_take, hXJ]; omega
  rw [e1]
  unfold spliceR
  have t1 : ((X ++ J).take (i + 1) ++ D).take i = X.take i := by
    rw [List.take_append_of_le_length (by omega), List.take_take, Nat.min_eq_left (by omega), List.take_append_of_le_length hi]
  have t2 : ((X ++ J).take (i + 1) ++ D).drop (i + [c].length) = D := by
    rw [show i + [c].length = ((X ++ J).take (i + 1)).length by rw [e2]; rfl]
    exact List.drop_left
  rw [t1, t2]
theorem ins_splice2 {L : List Lot} {i : Nat} (hi : i ≤ L.length) {x : Lot} {J : List (List CV)} (hJ : J.length = 1) : spliceR (spliceR (L.map encL ++ J) ((L.drop i).map encL) (i + 1)) [encL x] i = (insL L i x).map encL := by
  rw [splice_b (by simpa using hi) (by rw [List.map_drop]) hJ]
  simp [insL]
theorem ov_run {u : Value} {L2 : List (List CV)} {v : Value} {L : List (List CV)} {w : World} (h0 : (LO.row v 58 7 L).holds w) (h1 : (LO.row u 58 7 L2).holds w) (hpos : 0 < L.length) (hpos2 : 0 < L2.length) (hd : ∀ c ∈ blkOf v, c ∉ blkOf u) {lo hi : Int} :
    (callFunc 142 #[u, subV v 7 lo hi]).run Try.prog w = .ok (.value (.bool false)) w := by
  have key : ∀ {v : Value} {L : List (List CV)}, (LO.row v 58 7 L).holds w → (∃ g o n c cur, v = .slice (some ⟨g, o, none⟩) n c ∧ w.heap[g]? = some (.cells cur 58 (0, 0)) ∧ cur.size = o + c * 7 ∧ L.length ≤ c) ∨ (v = .slice none 0 0 ∧ L.length = 0) := by
    intro v L h
    obtain ⟨⟨_, ⟨rfl, h0⟩ | ⟨g, o, cap, cur, rfl, hg, hnc, hcm, hcs, htake⟩⟩, _⟩ := h
    · exact .inr ⟨rfl, h0⟩
    · exact .inl ⟨g, o, _, cap, cur, rfl, hg, hcs, hnc⟩
  rcases key h0 with ⟨g, o, n, c, cur, rfl, hg, hcs, hc⟩ | ⟨_, h⟩
  · obtain ⟨a', ea, hab⟩ : ∃ a', subV (.slice (some ⟨g, o, none⟩) n c) 7 lo hi = .slice (some a') (hi.toNat - lo.toNat) (c - lo.toNat) ∧ a'.block = g := by
      simp only [subV]
      split
      · exact ⟨_, rfl, rfl⟩
      · exact ⟨_, rfl, add_block _ _⟩
    rw [ea, run_callFunc_extern Try.func142 (by kernel_rfl) (by kernel_rfl) (by kernel_rfl) (e := Extern.SlicesOverlaps.overlaps #[47, 47] #[4]) (by kernel_rfl)]
    obtain ⟨hu58, j, hj, hj1, _⟩ := chk_slice (tab_ok 47 _ rfl) rfl
    rcases key h1 with ⟨g2, o2, n2, c2, cur2, rfl, hg2, hcs2, _⟩ | ⟨rfl, h⟩
    · have hne : g2 ≠ a'.block := fun e => hd g (by simp [blkOf]) (by simp [blkOf, e, hab])
      rw [Lib.run_overlaps_apart w 47 4 58 hu58 7 (fun w => by have := ok_sizeOf (P := Try.prog) hj w; rw [hj1] at this; exact this) ⟨g2, o2, none⟩ a' n2 c2 _ _ hne 58 58 cur2.size cur.size (by simp [World.shape?, hg2]) (by simp [World.shape?, hab, hg]) (by omega) (by simp [World.frozen?, hg2]) (by simp [World.frozen?, hg2])]
      rfl
    · omega
  · omega
theorem insert_c (L : List Lot) (i : Nat) (hi : i ≤ L.length) (x : Lot) (v u : Value) (w : World) (h : (LO.row v 58 7 (L.map encL)).holds w) (hu : (LO.row u 58 7 [encL x]).holds w) (hd : ∀ c ∈ blkOf v, c ∉ blkOf u) (hN : L.length ≤ 1000000) :
    Calls Try.prog 124 #[v, vI i, u] w (insPost v u (insL L i x) x w) := by
  have hh : Holds (St.enter Try.f124.ntmps [.s (.c (.o 0 v)), .i i, .s (.c (.o 1 u))] [(0, .row v 58 7 (L.map encL)), (1, .row u 58 7 [encL x])] (blkOf v ++ blkOf u) w) w := by
    have := enter_objs (N := Try.f124.ntmps) (l := [.s (.c (.o 0 v)), .i i, .s (.c (.o 1 u))]) (hp := [(0, .row v 58 7 (L.map encL)), (1, .row u 58 7 [encL x])]) (w := w) (fun o ho => by
      simp only [List.mem_cons, List.not_mem_nil, or_false] at ho
      rcases ho with rfl | rfl
      · exact h
      · exact hu) (by
      simp only [List.flatMap_cons, List.flatMap_nil, LO.blks, List.append_nil]
      rw [List.nodup_append]
      exact ⟨LO.nodup (o := .row v 58 7 []), LO.nodup (o := .row u 58 7 []), fun a ha b hb e => hd a ha (e ▸ hb)⟩)
    simpa [LO.blks] using this
  have hlm : (L.map encL).length = L.length := by simp
  refine calls_atB _ _ _ Try.func124 rfl rfl (Nat.le_of_ble_eq_true rfl) (WF.objs hh ⟨⟨_, _, _, rfl⟩, ⟨_, _, _, rfl⟩, trivial⟩ ⟨(nopL _).okH, (nopL [x]).okH, trivial⟩) hh fun B hB => ?_
  repeat refine At.seq ?_
  refine At.region tab_ok ?_
  conv => whnf
  repeat refine At.seq ?_
  refine At.region tab_ok ?_
  conv => whnf
  refine ⟨rfl, ?_⟩
  conv => whnf
  refine ⟨by omega, ?_⟩
  conv => whnf
  refine ⟨by omega, ?_⟩
  conv => whnf
  refine ⟨Or.inl (by omega), ?_⟩
  conv => whnf
  repeat refine At.seq ?_
  refine At.region tab_ok ?_
  conv => whnf
  refine ⟨rfl, ?_⟩
  conv => whnf
  repeat refine At.seq ?_
  refine At.region tab_ok ?_
  conv => whnf
  repeat refine At.seq ?_
  refine At.cond rfl (fun hq => by simp at hq) (fun _ => At.skip ?_)
  repeat refine At.seq ?_
  refine At.region tab_ok ?_
  conv => whnf
  refine ⟨rfl, ?_⟩
  conv => whnf
  repeat refine At.seq ?_
  refine At.region tab_ok ?_
  conv => whnf
  repeat refine At.seq ?_
  refine At.cond rfl (fun hq => ?_) (fun hq => ?_)
  · have hiL : i = L.length := by have := of_decide_eq_true hq; omega
    repeat refine At.seq ?_
    refine At.region tab_ok ?_
    conv => whnf
    refine ⟨rfl, ?_⟩
    conv => whnf
    refine ⟨⟨rfl, by simp; omega⟩, ?_⟩
    conv => whnf
    intro v1
    conv => whnf
    repeat refine At.seq ?_
    refine At.ret (At.doneB tab_ok hB _ rfl fun w' hw => ins_done (id := 0) hw (by show some (LO.row v1 58 7 _) = some (LO.row v1 58 7 _); subst hiL; simp [insL]) rfl (by decide) rfl rfl)
  · have hiL : i < L.length := by have := of_decide_eq_false hq; omega
    refine At.skip ?_
    repeat refine At.seq ?_
    refine At.region tab_ok ?_
    conv => whnf
    refine ⟨by simp; exact ⟨by omega, by omega⟩, ?_⟩
    conv => whnf
    refine ⟨rfl, ?_⟩
    conv => whnf
    repeat refine At.seq ?_
    refine At.cond rfl (fun hq => ?_) (fun hq => ?_)
    · have hcap := of_decide_eq_true hq
      simp only [List.length_cons, List.length_nil, hlm] at hcap
      repeat refine At.seq ?_
      refine At.region tab_ok ?_
      conv => whnf
      refine ⟨rfl, ?_⟩
      conv => whnf
      refine ⟨by omega, ?_⟩
      conv => whnf
      refine ⟨by omega, ?_⟩
      conv => whnf
      refine ⟨Or.inl (by omega), ?_⟩
      conv => whnf
      refine ⟨by simp; exact ⟨by omega, by omega⟩, ?_⟩
      conv => whnf
      refine ⟨by simp; exact ⟨by omega, by omega⟩, ?_⟩
      conv => whnf
      refine ⟨(L.take i).map encL, ⟨fun w' hw => ?_, nopL _, by simp; omega, ?_, ?_⟩, ?_⟩
      · have := row_prefix (hw.row (id := 0) rfl) (n := i) (by omega)
        rw [← List.map_take] at this
        exact SrcOk.of_row this (fun l hl c hc => by obtain ⟨y, _, rfl⟩ := List.mem_map.1 hl; exact intsOnly_one (encL_ints y) c hc)
      · have e : scap (subV v 7 0 i) = scap v := by
          obtain ⟨a, c, rfl, _, _⟩ := row_slice h
          simp [subV, scap]
        rw [e]; simp; omega
      · simp; omega
      conv => whnf
      intro v2
      conv => whnf
      generalize hR : (List.replicate _ _ : List (List CV)) = R
      have hRl : R.length = L.length + 1 - i := by rw [← hR]; simp <;> omega
      have hNR : NoP R := by rw [← hR]; intro l hl c hc; rw [List.eq_of_mem_replicate hl] at hc; simp at hc; subst hc; rfl
      have hL2 : ((L.take i).map encL ++ R).length = L.length + 1 := by simp [hRl]; omega
      repeat refine At.seq ?_
      refine At.region tab_ok ?_
      conv => whnf
      refine ⟨rfl, ?_⟩
      conv => whnf
      refine ⟨by omega, ?_⟩
      conv => whnf
      refine ⟨by omega, ?_⟩
      conv => whnf
      refine ⟨Or.inl (by omega), ?_⟩
      conv => whnf
      refine ⟨2, i, [encL x], ?_⟩
      conv => whnf
      refine ⟨⟨rfl, by rw [hL2]; simp; omega, fun w' hw => (SrcOk.of_row (hw.row (id := 1) rfl) (onesL [x])).toN (by rw [hL2]; simp; omega), nopL [x]⟩, ?_⟩
      conv => whnf
      have hL3 : (spliceR ((L.take i).map encL ++ R) [encL x] i).length = L.length + 1 := by rw [spliceR_length (by rw [hL2]; simp; omega), hL2]
      repeat refine At.seq ?_
      refine At.plan tab_ok mixed [(0, .row v 58 7 (L.map encL)), (1, .row u 58 7 [encL x])] (.take 0 (.take 1 (.take 2 (.take 3 (.take 5 (.take 6 (.take 7 (.br 4 (.br 8 .done .nob) .nob)))))))) (by kernel_rfl) (by kernel_rfl) ⟨rfl, rfl, trivial⟩ ?_
      conv => whnf
      refine ⟨by simp; exact ⟨by omega, by omega⟩, ?_⟩
      conv => whnf
      refine ⟨rfl, ?_⟩
      conv => whnf
      refine ⟨by omega, ?_⟩
      conv => whnf
      refine ⟨by omega, ?_⟩
      conv => whnf
      refine ⟨Or.inl (by omega), ?_⟩
      conv => whnf
      refine ⟨?_, trivial⟩
      conv => whnf
      refine ⟨rfl, ?_⟩
      conv => whnf
      refine ⟨by simp; omega, ?_⟩
      conv => whnf
      refine ⟨by rw [hL3]; simp; omega, ?_⟩
      conv => whnf
      refine ⟨Or.inl (by omega), ?_⟩
      conv => whnf
      refine ⟨⟨⟨rfl, rfl, trivial⟩, fun w' hw => hw.fr⟩, ?_⟩
      conv => whnf
      refine ⟨⟨2, i + 1, (L.drop i).map encL, ?_⟩, trivial⟩
      conv => whnf
      refine ⟨⟨by simp, by rw [hL3]; simp; omega, fun w' hw => ?_, nopL _⟩, ?_⟩
      · refine srcN_sub (hw.row (id := 0) rfl) (lo := i) (hi := L.length) (by omega) (by omega) (by rw [hL3]; omega) ?_ (onesL _) rfl (by simp)
        rw [hL3, List.take_of_length_le (by simp), List.map_drop]
      conv => whnf
      refine ⟨⟨⟨rfl, rfl, trivial⟩, fun w' hw => hw.fr⟩, ?_⟩
      conv => whnf
      repeat refine At.seq ?_
      refine At.region tab_ok ?_
      conv => whnf
      repeat refine At.seq ?_
      refine At.ret (At.doneB tab_ok hB _ rfl fun w' hw => ins_done (id := 2) hw (by show some (LO.row v2 58 7 _) = some (LO.row v2 58 7 _); rw [ins_splice hi hRl]) rfl (by decide) rfl rfl)
    · have hcap := of_decide_eq_false hq
      simp only [List.length_cons, List.length_nil, hlm] at hcap
      refine At.skip ?_
      repeat refine At.seq ?_
      refine At.region tab_ok ?_
      conv => whnf
      refine ⟨by simp; exact ⟨by omega, by omega⟩, ?_⟩
      conv => whnf
      refine ⟨rfl, ?_⟩
      conv => whnf
      refine ⟨by omega, ?_⟩
      conv => whnf
      refine ⟨by simp; omega, ?_⟩
      conv => whnf
      refine ⟨Or.inr (by simp; omega), ?_⟩
      conv => whnf
      generalize hsv : subV v 7 0 _ = sv
      refine At.reshapeH fun w' hw => ?_
      obtain ⟨J, hJ1, hJ2, hJ3⟩ := row_extend (hw.row (id := 0) rfl) (m := L.length + 1) (by omega) (by omega)
      rw [show subV v 7 0 ((L.length + 1 : Nat) : Int) = sv by rw [← hsv]; congr 1; simp] at hJ3
      rw [hlm] at hJ1
      have hJl : J.length = 1 := by omega
      refine ⟨{ N := Try.f124.ntmps, sl := [(0, some (.s (.c (.o 0 sv)))), (1, some (.i i)), (2, some (.s (.c (.o 1 u)))), (7, some (.i 1)), (8, some (.i L.length))], gl := [], hp := [(0, .row sv 58 7 (L.map encL ++ J)), (1, .row u 58 7 [encL x])], S := blkOf v ++ blkOf u, ws := w }, Le.of rfl rfl ⟨rfl, rfl, rfl, rfl, congrArg (Value.int .i64) (by simp), trivial⟩,
        (hw.setG (id := 0) rfl (Fr.refl _ _) hJ3 (fun c hc => .inl (by rw [← hsv] at hc; exact blkOf_sub c hc))).same rfl rfl rfl, ⟨⟨_, _, _, rfl⟩, ⟨_, _, _, rfl⟩, trivial⟩, ⟨(show NoP (L.map encL ++ J) from fun l hl c hc => (List.mem_append.1 hl).elim (fun h => nopL L l h c hc) (fun h => hJ2 l h c hc)).okH, (nopL [x]).okH, trivial⟩, ?_⟩
      have hLJ : (L.map encL ++ J).length = L.length + 1 := by simp [hJl]
      repeat refine At.seq ?_
      refine At.region tab_ok ?_
      conv => whnf
      refine ⟨⟨by omega, by omega⟩, ?_⟩
      conv => whnf
      refine ⟨rfl, ?_⟩
      conv => whnf
      refine ⟨by omega, ?_⟩
      conv => whnf
      refine ⟨by omega, ?_⟩
      conv => whnf
      refine ⟨Or.inl (by omega), ?_⟩
      conv => whnf
      refine .inr ⟨.b false, rfl, fun w' hw => ov_run (hw.row (id := 0) rfl) (hw.row (id := 1) rfl) (by omega) (by simp) (disj_of hw.nodup (i := 0) (j := 1) rfl rfl (by decide)), ?_⟩
      conv => whnf
      repeat refine At.seq ?_
      refine At.cond (t := true) rfl (fun _ => ?_) (fun hq => by cases hq)
      have hsrc : ∀ {st : St} {w' : World}, Holds st w' → Vc.look st.hp 0 = some (.row sv 58 7 (L.map encL ++ J)) → SrcN w' (subV sv 7 i (L.map encL ++ J).length) 7 ((L.drop i).map encL) ((L.map encL ++ J).length - (i + 1)) := fun {st w'} hw hl => by
        refine srcN_sub (hw.row hl) (lo := i) (hi := L.length + 1) (by omega) (by omega) (by omega) ?_ (onesL _) rfl (by rw [hLJ])
        rw [hLJ, List.drop_append_of_le_length (by simp; omega), List.take_append_of_le_length (by simp), List.take_of_length_le (by simp), List.map_drop]
      repeat refine At.seq ?_
      refine At.plan tab_ok mixed [(1, .row u 58 7 [encL x])] (.take 0 (.take 1 (.take 2 (.take 3 (.take 5 (.take 6 (.br 4 (.br 7 (.br 8 .done .nob) .nob) (.br 7 (.br 4 (.br 8 .done .nob) .nob) .nob)))))))) (by kernel_rfl) (by kernel_rfl) ⟨rfl, trivial⟩ ?_
      conv => whnf
      refine ⟨⟨by omega, by omega⟩, ?_⟩
      conv => whnf
      have hL5 : (spliceR (L.map encL ++ J) ((L.drop i).map encL) (i + 1)).length = L.length + 1 := by rw [spliceR_length (by rw [hLJ]; simp; omega), hLJ]
      refine ⟨?_, ⟨?_, trivial⟩⟩
      · conv => whnf
        refine ⟨rfl, ?_⟩
        conv => whnf
        refine ⟨by omega, ?_⟩
        conv => whnf
        refine ⟨by omega, ?_⟩
        conv => whnf
        refine ⟨Or.inl (by omega), ?_⟩
        conv => whnf
        refine ⟨⟨⟨rfl, trivial⟩, fun w' hw => hw.fr⟩, ?_⟩
        conv => whnf
        refine ⟨?_, trivial⟩
        conv => whnf
        refine ⟨rfl, ?_⟩
        conv => whnf
        refine ⟨by omega, ?_⟩
        conv => whnf
        refine ⟨by omega, ?_⟩
        conv => whnf
        refine ⟨Or.inl (by omega), ?_⟩
        conv => whnf
        refine ⟨⟨⟨rfl, trivial⟩, fun w' hw => hw.fr⟩, ?_⟩
        conv => whnf
        refine ⟨⟨0, i + 1, (L.drop i).map encL, ?_⟩, trivial⟩
        conv => whnf
        refine ⟨⟨by simp, by rw [hLJ]; simp; omega, fun w' hw => hsrc hw rfl, nopL _⟩, ?_⟩
        conv => whnf
        refine ⟨⟨⟨rfl, trivial⟩, fun w' hw => hw.fr⟩, ?_⟩
        conv => whnf
        repeat refine At.seq ?_
        refine At.region tab_ok ?_
        conv => whnf
        refine ⟨rfl, ?_⟩
        conv => whnf
        refine ⟨by omega, ?_⟩
        conv => whnf
        refine ⟨by rw [hL5]; omega, ?_⟩
        conv => whnf
        refine ⟨Or.inl (by omega), ?_⟩
        conv => whnf
        refine ⟨0, i, [encL x], ?_⟩
        conv => whnf
        refine ⟨⟨rfl, by rw [hL5]; simp; omega, fun w' hw => (SrcOk.of_row (hw.row (id := 1) rfl) (onesL [x])).toN (by rw [hL5]; simp; omega), nopL [x]⟩, ?_⟩
        conv => whnf
        repeat refine At.seq ?_
        refine At.region tab_ok ?_
        conv => whnf
        repeat refine At.seq ?_
        refine At.ret (At.doneB tab_ok hB _ rfl fun w' hw => ins_done (id := 0) hw (by show some (LO.row sv 58 7 _) = some (LO.row sv 58 7 _); rw [ins_splice2 hi hJl]) rfl (by decide) rfl rfl)
      · conv => whnf
        refine ⟨rfl, ?_⟩
        conv => whnf
        refine ⟨by omega, ?_⟩
        conv => whnf
        refine ⟨by omega, ?_⟩
        conv => whnf
        refine ⟨Or.inl (by omega), ?_⟩
        conv => whnf
        refine ⟨⟨⟨rfl, trivial⟩, fun w' hw => hw.fr⟩, ?_⟩
        conv => whnf
        refine ⟨?_, trivial⟩
        conv => whnf
        refine ⟨rfl, ?_⟩
        conv => whnf
        refine ⟨by omega, ?_⟩
        conv => whnf
        refine ⟨by omega, ?_⟩
        conv => whnf
        refine ⟨Or.inl (by omega), ?_⟩
        conv => whnf
        refine ⟨⟨⟨rfl, trivial⟩, fun w' hw => hw.fr⟩, ?_⟩
        conv => whnf
        refine ⟨⟨0, i + 1, (L.drop i).map encL, ?_⟩, trivial⟩
        conv => whnf
        refine ⟨⟨by simp, by rw [hLJ]; simp; omega, fun w' hw => hsrc hw rfl, nopL _⟩, ?_⟩
        conv => whnf
        refine ⟨⟨⟨rfl, trivial⟩, fun w' hw => hw.fr⟩, ?_⟩
        conv => whnf
        repeat refine At.seq ?_
        refine At.region tab_ok ?_
        conv => whnf
        refine ⟨rfl, ?_⟩
        conv => whnf
        refine ⟨by omega, ?_⟩
        conv => whnf
        refine ⟨by rw [hL5]; omega, ?_⟩
        conv => whnf
        refine ⟨Or.inl (by omega), ?_⟩
        conv => whnf
        refine ⟨0, i, [encL x], ?_⟩
        conv => whnf
        refine ⟨⟨rfl, by rw [hL5]; simp; omega, fun w' hw => (SrcOk.of_row (hw.row (id := 1) rfl) (onesL [x])).toN (by rw [hL5]; simp; omega), nopL [x]⟩, ?_⟩
        conv => whnf
        repeat refine At.seq ?_
        refine At.region tab_ok ?_
        conv => whnf
        repeat refine At.seq ?_
        refine At.ret (At.doneB tab_ok hB _ rfl fun w' hw => ins_done (id := 0) hw (by show some (LO.row sv 58 7 _) = some (LO.row sv 58 7 _); rw [ins_splice2 hi hJl]) rfl (by decide) rfl rfl)
end Go.Proofs.Ytjilbkioieicbaa
