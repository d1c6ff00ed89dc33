/- Walks: all deeds. -/
import Derived.Test.YtjilbkioieicbaaR10
namespace Go.Proofs.Ytjilbkioieicbaa
open Go.Vc Rt
set_option linter.unusedVariables false
set_option linter.unusedSimpArgs false
def lotsK (l : List Deed) : List Lot × List Int := l.foldl (fun p d => ((doB p.1 d).1, p.2 ++ [(doB p.1 d).2])) ([], [])
theorem lotsK_snoc (l : List Deed) (d : Deed) : lotsK (l ++ [d]) = ((doB (lotsK l).1 d).1, (lotsK l).2 ++ [(doB (lotsK l).1 d).2]) := by
  unfold lotsK; rw [List.foldl_append]; rfl
theorem lotsF_errs : ∀ (l : List Deed) (p : List Lot × List Int), (l.foldl (fun p d => ((doB p.1 d).1, p.2 ++ [(doB p.1 d).2])) p).2.length = p.2.length + l.length
  | [], p => by simp
  | d :: l, p => by rw [List.foldl_cons, lotsF_errs l]; simp; omega
theorem lotsK_errs (l : List Deed) : (lotsK l).2.length = l.length := by unfold lotsK; rw [lotsF_errs]; simp
theorem ansR_rows2 {st : St} {w w' : World} {i j : Nat} {v v' : Value} {E E' size size' : Nat} {L L' : List (List CV)} (hw : Holds st w') (hl : Vc.look st.hp i = some (.row v E size L)) (hl' : Vc.look st.hp j = some (.row v' E' size' L')) (hne : i ≠ j) (hS : st.S = []) (hws : st.ws = w) :
    ∃ vs, Ending.returned (RV.tup [.c (.o i v), .c (.o j v')]).den = .returned (toRV (resSV [.row E size L, .row E' size' L'] vs)).den ∧ resOk w.heap.size w' [.row E size L, .row E' size' L'] vs ∧ Ext w w' := by
  subst hws
  have fresh : ∀ {id : Nat} {o : LO}, Vc.look st.hp id = some o → ∀ b ∈ o.blks, st.ws.heap.size ≤ b := fun hl b hb => by
    rcases hw.fresh hl b hb with h | h
    · rw [hS] at h; cases h
    · exact h
  refine ⟨[v, v'], rfl, ⟨hw.row hl, fresh hl, fun u hu b hb => ?_, hw.row hl', fresh hl', fun u hu => (by cases hu), rfl⟩, by have := hw.fr; rw [hS] at this; exact this⟩
  rw [List.mem_singleton.1 hu]
  exact disj_of hw.nodup hl hl' hne b hb
theorem rd2 {E size E' size' : Nat} {L L' : List (List CV)} (h : NoP L) (h' : NoP L') : rdOk [.row E size L, .row E' size' L'] := ⟨h, h', trivial⟩
theorem lots_c (l : List Deed) (S : List Nat) (v : Value) (w : World) (h : SlOf deT S w v l) (hN : l.length ≤ 100000) (hok : ∀ k d, l[k]? = some d → DoOk (lotsK (l.take k)).1 d) :
    AnsR Try.prog 26 [v] [.row 58 7 ((lotsK l).1.map encL), .row 30 1 ((lotsK l).2.map encI)] w := by
  replace h := h.avoid (S' := []) (fun b hb => by cases hb)
  have hl := h.len
  refine calls_plainB [.x v] Try.func26 rfl rfl (Nat.le_of_ble_eq_true rfl) rfl fun B hB => ?_
  repeat refine At.seq ?_
  refine At.region tab_ok ?_
  conv => whnf
  repeat refine At.seq ?_
  refine At.region tab_ok ?_
  conv => whnf
  intro b
  conv => whnf
  repeat refine At.seq ?_
  refine At.region tab_ok ?_
  conv => whnf
  repeat refine At.seq ?_
  refine At.region tab_ok ?_
  conv => whnf
  refine ⟨h.sl, ?_⟩
  conv => whnf
  repeat refine At.seq ?_
  refine At.block ?_
  refine At.loopH (fun p : Nat × Value × Value => { N := Try.f26.ntmps, sl := [(4, some (.s (.c (.p 0 b 0)))), (5, some (.s (.c (.o 2 p.2.2)))), (8, some (.x v)), (9, some (.i l.length)), (10, some (.i p.1))], gl := [], hp := [(2, .row p.2.2 30 1 ((lotsK (l.take p.1)).2.map encI)), (1, .row p.2.1 58 7 ((lotsK (l.take p.1)).1.map encL)), (0, .box b 112 [.o 1 p.2.1])], S := [], ws := w }) (fun p => p.1 ≤ l.length) (fun p => l.length - p.1)
    (fun w' hw => ⟨(0, .slice none 0 0, .slice none 0 0), Nat.zero_le _, Le.of rfl rfl ⟨rfl, rfl, rfl, congrArg (Value.int .i64) hl, rfl, trivial⟩,
      Holds.nil (st := { N := Try.f26.ntmps, sl := [], gl := [], hp := [(1, .row (.slice none 0 0) 58 7 []), (0, .box b 112 [.o 1 (.slice none 0 0)])], S := [], ws := w }) (Holds.nil (st := { N := Try.f26.ntmps, sl := [], gl := [], hp := [(0, .box b 112 [.o 1 (.slice none 0 0)])], S := [], ws := w }) ((hw.setG (id := 0) (o' := .box b 112 [.o 1 (.slice none 0 0)]) rfl (Fr.refl _ _) (hw.objs (0, .box b 112 [.x (.slice none 0 0)]) (by simp)) (fun c hc => .inl hc)).same rfl rfl rfl) rfl rfl rfl) rfl rfl rfl,
      ⟨⟨_, _, rfl⟩, ⟨_, _, _, rfl⟩, trivial⟩, ⟨(nopI _).okH, (nopL _).okH, fun c hc => by simp at hc; subst hc; exact ⟨_, _, _, rfl⟩, trivial⟩⟩) ?_
  rintro ⟨k, v1, ve⟩ hk
  simp only at hk ⊢
  repeat refine At.seq ?_
  refine At.region tab_ok ?_
  conv => whnf
  repeat refine At.seq ?_
  refine At.cond rfl (fun hc => At.skip ?_) (fun hc => At.exit ?_)
  · have hlt : k < l.length := by have := of_decide_eq_true hc; omega
    obtain ⟨d, hd⟩ : ∃ d, l[k]? = some d := ⟨_, List.getElem?_eq_getElem hlt⟩
    obtain ⟨_, ⟨u, rfl, hu⟩, hcells⟩ := h.at hd
    have hdo := hok k d hd
    have hsn : lotsK (l.take (k + 1)) = ((doB (lotsK (l.take k)).1 d).1, (lotsK (l.take k)).2 ++ [(doB (lotsK (l.take k)).1 d).2]) := by rw [List.take_add_one, hd]; exact lotsK_snoc _ _
    have hel := lotsK_errs (l.take k)
    generalize lotsK (l.take k) = q at *
    obtain ⟨L, es⟩ := q
    simp only [List.length_take] at hdo hsn hel ⊢
    repeat refine At.seq ?_
    refine At.block ?_
    repeat refine At.seq ?_
    refine At.region tab_ok ?_
    conv => whnf
    refine ⟨by omega, ?_⟩
    conv => whnf
    refine ⟨by omega, ?_⟩
    conv => whnf
    refine ⟨encD d u, fun w' hw => hcells w' hw.fr, ?_⟩
    conv => whnf
    intro b3
    conv => whnf
    refine ⟨hu.sl.one, ?_⟩
    conv => whnf
    repeat refine At.seq ?_
    refine At.region tab_ok ?_
    conv => whnf
    refine bk_call (i0 := 0) (i1 := 1) (L := L) (L' := (doB L d).1) (r := .i (doB L d).2) b66 rfl rfl (by decide) rfl (fun w' hw hb => do_c L d b v1 u w' hb ((hw.lift hu).avoid fun c hc => .inl ?_) hdo) ?_
    · simp only [St.blks, List.flatMap_cons, List.flatMap_nil, LO.blks, List.mem_append, List.mem_singleton]
      rcases List.mem_cons.1 hc with rfl | hc
      · simp
      · simp [hc]
    rintro v2 hsl2
    intro v3
    conv => whnf
    refine ⟨rfl, ?_⟩
    conv => whnf
    refine ⟨⟨rfl, by simp; omega⟩, ?_⟩
    conv => whnf
    intro v4
    conv => whnf
    repeat refine At.seq ?_
    refine At.region tab_ok ?_
    conv => whnf
    refine ⟨⟨by omega, by omega⟩, ?_⟩
    conv => whnf
    refine At.nextH fun w' hw => ⟨(k + 1, v2, v4), by simp only; omega, by simp only; omega, Le.of rfl rfl ⟨rfl, rfl, rfl, rfl, rfl, trivial⟩, hw.keep [2, 1, 0] ?_ rfl rfl, ⟨⟨_, _, rfl⟩, ⟨_, _, _, rfl⟩, trivial⟩, ⟨(nopI _).okH, (nopL _).okH, fun c hc => by simp at hc; subst hc; exact ⟨_, _, _, rfl⟩, trivial⟩⟩
    show [(2, LO.row v4 30 1 _), (1, LO.row v2 58 7 _), (0, LO.box b 112 [.o 1 v2])] = [(2, LO.row v4 30 1 _), (1, LO.row v2 58 7 _), (0, LO.box b 112 [.o 1 v2])]
    rw [hsn, List.map_append]
    rfl
  · have hge : k = l.length := by have := of_decide_eq_false hc; omega
    subst hge
    rw [List.take_length]
    repeat refine At.seq ?_
    refine At.region tab_ok ?_
    conv => whnf
    repeat refine At.seq ?_
    refine At.ret (At.doneB tab_ok hB _ rfl fun w' hw => ansR_rows2 (i := 1) (j := 2) hw rfl rfl (by decide) rfl rfl)
end Go.Proofs.Ytjilbkioieicbaa
