/- Walks: the book is cut at a span. -/
import Derived.Test.YtjilbkioieicbaaR6
namespace Go.Proofs.Ytjilbkioieicbaa
open Go.Vc Rt
set_option linter.unusedVariables false
set_option linter.unusedSimpArgs false
theorem idx_bound {α : Type} (p : α → Bool) (xs : List α) : -1 ≤ idxOf p xs ∧ idxOf p xs < xs.length := by
  unfold idxOf
  split
  · rename_i i h
    rw [List.findIdx?_eq_some_iff_getElem] at h
    have := h.1; omega
  · omega
theorem cut1_c (L : List Lot) (s : Span) (n : Int) (bp bs b : Nat) (v : Value) (w : World) (hp : (LO.box bp 138 [.p 2 b 0]).holds w) (hs : (LO.box bs 56 (encS s)).holds w) (hb : (LO.box b 112 [.o 1 v]).holds w) (hv : SlOf loT [bp, bs, b] w v L)
    (hn : [bp, bs, b].Nodup) : Ans Try.prog 145 [vI n, ptr bp, ptr bs] (.i (idxOf (inLot s.m n) L)) w := by
  have hh : Holds (St.enter Try.f145.ntmps [.i n, .s (.c (.p 0 bp 0)), .s (.c (.p 1 bs 0))] [(0, .box bp 138 [.p 2 b 0]), (1, .box bs 56 (encS s)), (2, .box b 112 [.x v])] [bp, bs, b] w) w := enter_objs (fun o ho => by
    simp only [List.mem_cons, List.not_mem_nil, or_false] at ho
    rcases ho with rfl | rfl | rfl
    · exact hp
    · exact hs
    · exact hb) (by simpa [LO.blks] using hn)
  refine calls_atB _ _ _ Try.func145 rfl rfl (Nat.le_of_ble_eq_true rfl) (WF.objs hh ⟨⟨_, _, rfl⟩, ⟨_, _, rfl⟩, trivial⟩ ⟨fun c hc => by simp at hc; subst hc; exact ⟨_, _, rfl⟩, trivial⟩) hh fun B hB => ?_
  repeat refine At.seq ?_
  refine At.region tab_ok ?_
  conv => whnf
  intro bn
  conv => whnf
  repeat refine At.seq ?_
  refine At.region tab_ok ?_
  conv => whnf
  refine ans_call b146 rfl (fun w' hw => indexL_c L [bp, bs, b] v w' (hv.fr hw.fr) 147 #[ptr bs, ptr bn] (inLot s.m n) b147 (fun x _ w'' hx => cut11_c x s n bs bn w'' (LO.holds_ext hx (hw.objs (1, .box bs 56 (encS s)) (by simp))) (LO.holds_ext hx (hw.objs (3, .box bn 3 [.i n]) (by simp)))
    (fun e => disj_of hw.nodup (i := 1) (j := 3) rfl rfl (by decide) bs (by simp [LO.blks]) (by simp [LO.blks, e])))) ?_
  conv => whnf
  repeat refine At.seq ?_
  refine At.ret (At.doneB tab_ok hB _ rfl fun w' hw => ⟨rfl, hw.fr.ext fun c hc => ?_⟩)
  simp only [List.mem_cons, List.not_mem_nil, or_false] at hc
  rcases hc with rfl | rfl | rfl
  · exact (hw.box (id := 0) rfl).trans hp.symm
  · exact (hw.box (id := 1) rfl).trans hs.symm
  · exact (hw.box (id := 2) rfl).trans hb.symm
def cutI (s : Span) (L : List Lot) : Int := idxOf (inLot s.m s.f) (cutAt s L)
def cutK (s : Span) (L : List Lot) : Int := idxOf (inLot s.m (s.t - 1)) (cutAt s L)
def cutB (s : Span) (L : List Lot) : Bool := decide (0 ≤ cutI s L) && decide (cutI s L ≤ cutK s L)
theorem cut_len (s : Span) (L : List Lot) : (cutAt s L).length ≤ L.length + 2 := by
  unfold cutAt
  have h1 := split_len s.m s.t (split s.m s.f L)
  have h2 := split_len s.m s.f L
  omega
theorem cut_c (L : List Lot) (s : Span) (b : Nat) (v : Value) (w : World) (h : Bk w b v L) (hN : L.length ≤ 900000) (hs : inR (s.t - 1)) : BkC 125 [ptr b, vS s] b v (cutAt s L) (.tup [.c (.i (cutI s L)), .c (.i (cutK s L + 1)), .c (.b (cutB s L))]) w := by
  have hh := enter_bk (N := Try.f125.ntmps) (l := [.s (.c (.p 0 b 0)), .s (.agg (encS s))]) h
  have hl1 := split_len s.m s.f L
  have hl2 := cut_len s L
  have hbI := idx_bound (inLot s.m s.f) (cutAt s L)
  have hbK := idx_bound (inLot s.m (s.t - 1)) (cutAt s L)
  refine calls_atB _ _ _ Try.func125 rfl rfl (Nat.le_of_ble_eq_true rfl) (WF.objs hh ⟨⟨_, _, rfl⟩, trivial⟩ ⟨fun c hc => by simp at hc; subst hc; exact ⟨_, _, _, rfl⟩, (nopL _).okH, trivial⟩) hh fun B hB => ?_
  repeat refine At.seq ?_
  refine At.region tab_ok ?_
  conv => whnf
  intro bp
  conv => whnf
  intro bs
  conv => whnf
  repeat refine At.seq ?_
  refine At.region tab_ok ?_
  conv => whnf
  refine bk_call (i0 := 0) (i1 := 1) (L := L) (L' := split s.m s.f L) (r := .tup []) b144 rfl rfl (by decide) rfl (fun w' hw hb => split_c L s.m s.f b v w' hb (by omega)) ?_
  rintro v1 hsl1
  conv => whnf
  repeat refine At.seq ?_
  refine At.region tab_ok ?_
  conv => whnf
  refine bk_call (i0 := 0) (i1 := 1) (L := split s.m s.f L) (L' := cutAt s L) (r := .tup []) b144 rfl rfl (by decide) rfl (fun w' hw hb => split_c (split s.m s.f L) s.m s.t b v1 w' hb (by omega)) ?_
  rintro v2 hsl2
  conv => whnf
  repeat refine At.seq ?_
  refine At.region tab_ok ?_
  conv => whnf
  repeat refine At.seq ?_
  refine At.draw tab_ok mixed (by kernel_rfl) ?_
  conv => whnf
  have hat : ∀ {st : St} {w' : World} (n : Int), Holds st w' → Vc.look st.hp 0 = some (.box b 112 [.o 1 v2]) → Vc.look st.hp 1 = some (.row v2 58 7 ((cutAt s L).map encL)) → Vc.look st.hp 2 = some (.box bp 138 [.p 0 b 0]) → Vc.look st.hp 3 = some (.box bs 56 (encS s)) →
      Ans Try.prog 145 [vI n, ptr bp, ptr bs] (.i (idxOf (inLot s.m n) (cutAt s L))) w' := fun {st w'} n hw h0 h1 h2 h3 => by
    have d1 := disj_of hw.nodup h2 h3 (by decide)
    have d2 := disj_of hw.nodup h2 h0 (by decide)
    have d3 := disj_of hw.nodup h3 h0 (by decide)
    have r1 := disj_of hw.nodup h1 h0 (by decide)
    have r2 := disj_of hw.nodup h1 h2 (by decide)
    have r3 := disj_of hw.nodup h1 h3 (by decide)
    simp only [LO.blks, List.mem_singleton, forall_eq] at d1 d2 d3 r1 r2 r3
    refine cut1_c (cutAt s L) s n bp bs b v2 w' (hw.objs _ (look_mem h2)) (hw.objs _ (look_mem h3)) (hw.objs _ (look_mem h0)) (SlOf.of_row (hw.row h1) (fun c hc => ?_) (by omega)) (by simp [d1, d2, d3])
    simp only [List.mem_cons, List.not_mem_nil, or_false, not_or]
    exact ⟨fun e => r2 c hc e, fun e => r3 c hc e, fun e => r1 c hc e⟩
  refine ⟨.i (cutI s L), ans_quiet b145 (fun w' hw => hat s.f hw rfl rfl rfl rfl), ?_⟩
  conv => whnf
  refine ⟨hs, ?_⟩
  conv => whnf
  refine ⟨.i (cutK s L), ans_quiet b145 (fun w' hw => hat (s.t - 1) hw rfl rfl rfl rfl), ?_⟩
  conv => whnf
  repeat refine At.seq ?_
  refine At.region tab_ok ?_
  conv => whnf
  refine ⟨by unfold cutK; exact ⟨by omega, by omega⟩, ?_⟩
  conv => whnf
  repeat refine At.seq ?_
  refine At.ret (At.doneB tab_ok hB _ rfl fun w' hw => by rw [band]; exact bk_done (i0 := 0) (i1 := 1) (L' := cutAt s L) (r := .tup [.c (.i (cutI s L)), .c (.i (cutK s L + 1)), .c (.b (cutB s L))]) hw rfl rfl (by decide) rfl rfl)
end Go.Proofs.Ytjilbkioieicbaa
